/- A function's contract out of its text's account: the whole. -/
import Derived.Test.YtmiahmpobpokmaaVo
namespace Go.Vai
open Go.RowKit

variable {P : Program} {C : Fx} {w : World} {ρ : Nat → Option Nat} {Im : Nat → Prop} {M : Str} {E : Env} {σ : Store} {a : Act}

theorem Content.mono {Im' : Nat → Prop} {e sz b : Nat} {es : List AV} (h : Content w Im e sz es b) (hI : ∀ b, Im b → Im' b) : Content w Im' e sz es b := by
  obtain ⟨cur, h1, h2, h3, hc⟩ := h
  exact ⟨cur, h1, h2, h3, fun i x j c hx hcx => by obtain ⟨v, hv, ho, hr⟩ := hc i x j c hx hcx; exact ⟨v, hv, ho, hr.mono hI (fun _ _ => rfl)⟩⟩

theorem R1.mono {Im' : Nat → Prop} {r : AV} {y : Value} {ob : Option Nat} (h : R1 w Im r y ob) (hI : ∀ b, Im b → Im' b) : R1 w Im' r y ob := by
  cases r with
  | new e sz es =>
    rcases h with h | ⟨b, cap, h0, h1, h2, h3, h4, h5, h6⟩
    · exact .inl h
    · exact .inr ⟨b, cap, h0, h1, h2, h3, h4, h5, h6.mono hI⟩
  | nptr e sz es => obtain ⟨b, h0, h1, h2, h3⟩ := h; exact ⟨b, h0, h1, h2, h3.mono hI⟩
  | _ => exact ⟨h.1, h.2.mono hI (fun _ _ => rfl)⟩

theorem RL.mono {Im' : Nat → Prop} (hI : ∀ b, Im b → Im' b) : ∀ {rs : List AV} {ys : List Value} {obs : List (Option Nat)}, RL w Im rs ys obs → RL w Im' rs ys obs
  | [], [], [], _ => trivial
  | _ :: _, _ :: _, _ :: _, h => ⟨h.1.mono hI, RL.mono hI h.2⟩

/-- What a state hands back. -/
theorem resF_single (n : Nat) (σ : Store) {v : AV} (h : v.single = true) : (resF n σ v).single = true := by
  cases n with
  | zero =>
    simp only [resF, AV.kill]
    split
    · cases v with
      | tup => cases h
      | clo => cases h
      | own a s i n => simp only [AV.dk]; split <;> rfl
      | ptr a s i n => simp only [AV.dk]; split <;> rfl
      | mref a => simp only [AV.dk]; split <;> rfl
      | _ => rfl
    · exact h
  | succ n => cases v with
    | tup => cases h
    | clo => cases h
    | own a s i n => simp only [resF, resOwn]; split <;> (try split) <;> rfl
    | ptr a s i n => simp only [resF, resPtr, resE]; split <;> (try split) <;> (try split) <;> rfl
    | mref a => simp only [resF, resMap]; split <;> (try split) <;> rfl
    | _ => rfl
theorem expo_single {p : Nat → Bool} {v : AV} (h : v.single = true) : (expo σ p v).single = true := by
  unfold expo
  split
  · split <;> rfl
  · split <;> rfl
  · exact resF_single 8 _ h

theorem ret_sound {tm : Array Value} (h : Rest C E σ tm w ρ Im M) (hX : ∀ b, ¬ C.X0 b) (hlow0 : ∀ b, C.Im0 b → b < C.w0.heap.size) {vs : List AV} {ys : List Value} (hr : Reps w ρ Im vs ys) {R : AV → Prop} (hk : retK σ R vs) :
    ∃ r, R r ∧ RRep C.w0 w C.Im0 r (if h : ys.toArray.size = 1 then ys.toArray[0] else .tuple ys.toArray) := by
  have low : ∀ p b, Seen Im (killR p ρ) b → C.Im0 b ∨ (C.w0.heap.size ≤ b ∧ b < w.heap.size) := fun p b hb => by
    rcases hb with hb | ⟨id, hb⟩
    · rcases h.im b hb with h' | h'
      · exact .inl h'
      · exact .inr ⟨h', h.inv.low b hb⟩
    · have hb := (killR_some hb).2
      rcases h.rng id b hb with h' | h'
      · exact absurd h' (hX b)
      · exact .inr ⟨h', h.inv.lt hb⟩
  have fresh : ∀ (us : List AV) (obs : List (Option Nat)), (∀ b, some b ∈ obs → ∃ id ∈ topIds us, ρ id = some b) → obs.Pairwise (fun x y => x = none ∨ x ≠ y) →
      Fresh C.w0.heap.size (fun b => C.Im0 b ∨ Seen Im (killR (topP us) ρ) b) obs := fun us obs h1 h2 => by
    refine ⟨fun b hb => ?_, h2⟩
    obtain ⟨id, hid, hρ⟩ := h1 b hb
    have hge : C.w0.heap.size ≤ b := by
      rcases h.rng id b hρ with h' | h'
      · exact absurd h' (hX b)
      · exact h'
    refine ⟨hge, fun hI => ?_⟩
    rcases hI with hI | hI | ⟨id', hI⟩
    · have := hlow0 b hI; omega
    · exact h.inv.apart id b hρ hI
    · obtain ⟨hp, hI⟩ := killR_some hI
      have := h.inv.inj id id' b hρ hI
      subst this
      simp [topP, hid] at hp
  have hmk : ∀ p, ∃ Im' : Nat → Prop, Im' = fun b => C.Im0 b ∨ Seen Im (killR p ρ) b := fun p => ⟨_, rfl⟩
  have sub : ∀ (us : List AV) b, (C.Im0 b ∨ Seen Im (killR (topP us) ρ) b) → C.Im0 b ∨ (C.w0.heap.size ≤ b ∧ b < w.heap.size) := fun us b hb => by
    rcases hb with hb | hb
    · exact .inl hb
    · exact low _ b hb
  have many : ∀ us : List AV, expOK σ us → ∀ zs, Reps w ρ Im us zs → ∃ obs, RL w (fun b => C.Im0 b ∨ Seen Im (killR (topP us) ρ) b) (us.map (expo σ (topP us))) zs obs ∧ Fresh C.w0.heap.size (fun b => C.Im0 b ∨ Seen Im (killR (topP us) ρ) b) obs := fun us hok zs hz => by
    obtain ⟨obs, h1, h2, h3⟩ := expoL_sound h.inv (p := topP us) us zs hz hok.2 hok.1
    exact ⟨obs, h1.mono fun b hb => .inr hb, fresh us obs h2 h3⟩
  unfold retK at hk
  split at hk
  · rename_i g caps
    obtain ⟨hok, hR⟩ := hk
    obtain ⟨y, rfl⟩ : ∃ y, ys = [y] := by
      have := hr.1; match ys, this with | [y], _ => exact ⟨y, rfl⟩
    obtain ⟨cys, rfl, hcl, hcr⟩ := (hr.2 0 _ y rfl rfl).clo_inv
    obtain ⟨obs, h1, h2⟩ := many caps hok cys ⟨hcl, hcr⟩
    exact ⟨_, hR, _, fun b hb => .inl hb, sub caps, cys, obs, by simp, h1, h2⟩
  · rename_i v hv
    obtain ⟨hsg, hok, hR⟩ := hk
    obtain ⟨y, rfl⟩ : ∃ y, ys = [y] := by
      have := hr.1; match ys, this with | [y], _ => exact ⟨y, rfl⟩
    obtain ⟨obs, h1, h2⟩ := many [v] hok [y] hr
    obtain ⟨ob, rfl⟩ : ∃ ob, obs = [ob] := by
      match obs, h1 with | [ob], _ => exact ⟨ob, rfl⟩
    have hsg' := expo_single (σ := σ) (p := topP [v]) hsg
    refine ⟨_, hR, _, fun b hb => .inl hb, sub [v], ?_⟩
    have h1 := h1.1
    simp only [List.size_toArray, List.length_cons, List.length_nil, Nat.zero_add, dite_true]
    generalize expo σ (topP [v]) v = r at *
    cases r with
    | tup => cases hsg'
    | clo => cases hsg'
    | _ => exact ⟨ob, by simpa using h1, h2⟩
  · rename_i hn1 hn2
    obtain ⟨hok, hR⟩ := hk
    obtain ⟨obs, h1, h2⟩ := many vs hok ys hr
    have hne : ys.toArray.size ≠ 1 := by
      simp only [List.size_toArray, ← hr.1]
      intro hl
      match vs, hl, hn2 with | [v], _, hn2 => exact hn2 v rfl
    rw [dif_neg hne]
    exact ⟨_, hR, _, fun b hb => .inl hb, sub vs, ys, obs, rfl, h1, h2⟩

theorem results_run {fn : Func} {tm : Array Value} {ys : List Value} (h : (fn.results.toList.mapM (readR tm)).run P w = .ok ys w) :
    (results fn tm).run P w = .ok (if h : ys.toArray.size = 1 then ys.toArray[0] else .tuple ys.toArray) w := by
  have : results fn tm = (do let vs ← fn.results.mapM (readR tm); pure (if h : vs.size = 1 then vs[0] else .tuple vs)) := by
    unfold results readR; congr 1
  rw [this, Array.mapM_eq_mapM_toList]
  simp only [map_eq_pure_bind, Sem.run_bind, h, Result.andThen_ok, Sem.run_pure]

theorem gstable_true : GStable (fun _ _ _ => True) := fun _ _ _ _ _ _ _ _ _ _ => trivial

/-- How a text ends: what it hands back, with the state that it leaves. -/
def retG (P : Program) (fn : Func) (K : List AV → Env → Store → Prop) : Exit → Env → Store → Prop
  | .normal => fun E σ => rvals P E σ fn.results.toList fun vs => K vs E σ
  | .ret => fun E σ => rvals P E σ fn.results.toList fun vs => K vs E σ
  | _ => fun _ _ => False

def handed (ys : List Value) : Value := if h : ys.toArray.size = 1 then ys.toArray[0] else .tuple ys.toArray

/-- **A function's text, run.** -/
theorem body_sound {S : Sp} {f : FuncId} {fn : Func} {c : Code} {E0 : Env} {vs : List Value} {σ0 : Store} {ρ0 : Nat → Option Nat} {Im0 : Nat → Prop} {M0 : Str} {K : List AV → Env → Store → Prop} {R : Ending → World → Prop}
    (H : Holds S C) (hrd : C.rd = none) (hf : S.P.funcs[f]? = some fn) (hb : fn.body = some c) (hN : C.N = fn.ntmps) (hok : codeOK S.P fn.ntmps c = true)
    (hres : fn.results.toList.all (ResultVar.low fn.ntmps) = true)
    (hw : Wit C E0 σ0 { tmps := vs.toArray ++ Array.replicate (fn.ntmps - vs.toArray.size) undef, defers := [] } w ρ0 Im0 M0)
    (hawp : awp S c (retG S.P fn K) E0 σ0)
    (hpost : ∀ E σ tm w' ρ Im M us ys, K us E σ → Rest C E σ tm w' ρ Im M → Reps w' ρ Im us ys → R (.returned (handed ys)) w') : Calls S.P f vs.toArray w R := by
  have hcall : CallsIn (FW none) 0 S.P f vs.toArray w R := by
    refine callsIn_of_wp_marks hf hb trivial ?_ rfl
    have hrdl : C.rdl = none := by unfold Fx.rdl; rw [hrd]; rfl
    have := awp_sound H (draw_sound H) (n := 0) c _ _ _ (by rw [H.N, hN]; exact hok) hawp (bodyPostM (FW none) 0 S.P fn R) (fun e E σ a w' hq hs => ?_) _ w ⟨ρ0, Im0, M0, hw⟩
    · rw [hrdl] at this; exact this
    · have fin : (rvals S.P E σ fn.results.toList fun vs => K vs E σ) → LeavesInM (FW none) 0 S.P fn a.tmps R a.defers .returning w' := fun hq => by
        obtain ⟨ρ, I, M, hw⟩ := hs
        refine rest_defers (C := C) (E := E) (σ := σ) (ρ := ρ) (Im := I) (M := M) H.G a.defers w' ⟨hw.inv, hw.env, hw.size, hw.ext, hw.rng, hw.im, hw.g, hw.gh, hw.js, hw.ms, hw.pin, hw.j0⟩ hw.nodup (fun d hd => ?_) (fun w2 hrest => ?_)
        · obtain ⟨D, e, hD, hle⟩ := hw.df d hd
          have hbk := hw.bk D (.inr (e ▸ hd))
          exact ⟨D, e, hD, hle, hbk⟩
        · obtain ⟨us, ys, hk, hr, hrun⟩ := rvals_sound (P := S.P) hrest.inv hrest.env fn.results.toList _ (by rw [hrest.size, hN]; exact hres) hq
          exact ⟨_, results_run hrun, hpost E σ _ w2 ρ I M us ys hk hrest hr⟩
      cases e with
      | normal => exact fin hq
      | ret => exact fin hq
      | exit id => exact hq.elim
      | goto l => exact hq.elim
      | panic ch => exact hq.elim
      | outgrown => exact hq.elim
  have : CallsIn Fence.wide 0 S.P f vs.toArray w R := hcall
  exact callsIn_wide.1 this

/-- What a caller hands, lies in the slots. -/
theorem env_init {args : List AV} {vs : List Value} {N : Nat} (h : Reps w ρ Im args vs) : EnvRep w ρ Im (initE args) (vs.toArray ++ Array.replicate (N - vs.toArray.size) undef) := by
  intro t y hy
  have hsz : vs.length = args.length := h.1.symm
  rw [Array.getElem?_append] at hy
  simp only [List.size_toArray, List.getElem?_toArray] at hy
  simp only [initE]
  split at hy
  · rename_i hlt
    have hlt' : t < args.length := by omega
    have := h.2 t args[t] y (List.getElem?_eq_getElem hlt') hy
    rw [List.getD_eq_getElem?_getD, List.getElem?_eq_getElem hlt']
    exact this
  · rename_i hge
    rw [Array.getElem?_replicate] at hy
    split at hy
    · simp at hy; subst hy
      rw [List.getD_eq_getElem?_getD, List.getElem?_eq_none (by omega)]
      exact .im _ _ (.v _)
    · cases hy

theorem initE_out (args : List AV) (N : Nat) (h : args.length ≤ N) : initE args N = .v undef := by
  simp only [initE]; rw [List.getD_eq_getElem?_getD, List.getElem?_eq_none (by omega)]; rfl

/-- How a function is called. -/
theorem enters {P : Program} {f : FuncId} {fn : Func} {c : Code} (hf : P.funcs[f]? = some fn) (hb : fn.body = some c) (hn : (fn.name == "runtime.NumGoroutine") = false) (as : Array Value) (w : World) :
    (callFunc f as).run P w = .ok (.enter f as) w := by
  have hn' : ¬ fn.name = "runtime.NumGoroutine" := by simpa using hn
  simp [callFunc, program, Sem.run, Sem.run_bind, hf, hb, hn', Result.andThen]

/-- What is checked of a function's text. -/
def fnOK (P : Program) (fn : Func) (c : Code) : Bool :=
  codeOK P fn.ntmps c && fn.results.toList.all (ResultVar.low fn.ntmps) && !(fn.name == "runtime.NumGoroutine") && decide (fn.ntmps ≤ 99999)

/-- The words of a text that is spoken of alone. -/
def spOf (P : Program) (f : FuncId) (N : Nat) : Sp := { P, N, b := 131072 * (f + 1), pin := fun _ => false, yl := 0, Y := fun _ _ _ => False }

theorem fnOK_spec {P : Program} {fn : Func} {c : Code} (h : fnOK P fn c = true) : codeOK P fn.ntmps c = true ∧ fn.results.toList.all (ResultVar.low fn.ntmps) = true ∧ (fn.name == "runtime.NumGoroutine") = false ∧ fn.ntmps ≤ 99999 := by
  simp only [fnOK, Bool.and_eq_true, Bool.not_eq_true', decide_eq_true_eq] at h
  exact ⟨h.1.1.1, h.1.1.2, h.1.2, h.2⟩

/-- **The contract of a function, out of what its text is asked.** -/
theorem ev_of_awp {P : Program} {f : FuncId} {fn : Func} {c : Code} {args : List AV} {r : AV} (hf : P.funcs[f]? = some fn) (hb : fn.body = some c) (hok : fnOK P fn c = true) (hmo : P.follows .mixedOrders = true)
    (hlen : args.length ≤ fn.ntmps) (h : awp (spOf P f fn.ntmps) c (retG P fn fun vs _ σ => retK σ (· = r) vs) (initE args) fun _ => none) : Ev P f args r := by
  obtain ⟨h1, h2, h3, h4⟩ := fnOK_spec hok
  intro args' r0 he
  rw [he.1, he.2]
  refine ⟨enters hf hb h3, fun w Im vs hlow hargs => ?_⟩
  let C : Fx := { w0 := w, X0 := fun _ => False, Im0 := Im, G := fun _ _ _ => True, N := fn.ntmps, rd := none, pin := fun _ => none, J0 := fun _ => False }
  have H : Holds (spOf P f fn.ntmps) C := ⟨rfl, gstable_true, fun _ _ _ hY => hY.elim, hmo, fun _ _ hp => (by cases hp), fun _ hp => (by cases hp), h4, fun _ => rfl⟩
  have hreps : Reps w (fun _ => none) Im args vs := ⟨hargs.1, fun j c y hc hy => .im _ _ (hargs.2 j c y hc hy)⟩
  refine body_sound (E0 := initE args) (S := spOf P f fn.ntmps) (C := C) (ρ0 := fun _ => none) (Im0 := Im) (M0 := ⟨fun _ => False, fun _ => False⟩) H rfl hf hb rfl h1 h2 ?_ h fun E σ tm w' ρ I M us ys hk hrest hr => ?_
  · refine ⟨⟨fun id k hk => (by cases hk), fun id k b hk => (by cases hk), fun id k b hk => (by cases hk), fun i j b hi => (by cases hi), fun i b hi => (by cases hi), fun i b hi => (by cases hi), hlow⟩, env_init hreps, ?_, Ext.refl _ _, fun i b hi => (by cases hi), fun b hb => .inl hb, fun p => ?_, trivial, fun b hb => hb.elim, fun b hb => hb.elim, fun l r hr => (by cases hr), .nil, fun d hd => (by cases hd), fun b hb => ?_, fun id b hb => (by cases hb), fun b hb => hb.elim⟩
    · simp only [Array.size_append, List.size_toArray, Array.size_replicate]
      have := hargs.1
      show vs.length + (fn.ntmps - vs.length) = fn.ntmps
      omega
    · show AV.namesB p (initE args fn.ntmps) = false
      rw [initE_out args _ hlen]; rfl
    · rcases hb with ⟨r, hr⟩ | hd
      · cases hr
      · cases hd
  · obtain ⟨r', rfl, hrr⟩ := ret_sound hrest (fun _ h => h) hlow hr hk
    exact ⟨_, rfl, hrest.ext, hrr⟩

end Go.Vai

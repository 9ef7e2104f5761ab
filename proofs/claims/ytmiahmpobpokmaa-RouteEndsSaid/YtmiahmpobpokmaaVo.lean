/- A function's contract out of its text's account. -/
import Derived.Test.YtmiahmpobpokmaaVq4
import Derived.RangeFuncLeaves
namespace Go.Vai
open Go.RowKit

variable {P : Program} {C : Fx} {w : World} {ρ : Nat → Option Nat} {Im : Nat → Prop} {M : Str} {E : Env} {σ : Store} {a : Act}

/-- Blocks that are handed on whole. -/
def topIds : List AV → List Nat
  | [] => []
  | .own id _ 0 _ :: r => id :: topIds r
  | .ptr id _ 0 0 :: r => id :: topIds r
  | _ :: r => topIds r

def topP (vs : List AV) : Nat → Bool := fun i => (topIds vs).contains i

def expo (σ : Store) (p : Nat → Bool) (v : AV) : AV :=
  match v with
  | .own id sz 0 n => match σ id with
    | some k => .new k.e sz (resL (res (killS p σ)) (k.es.take n))
    | none => .any
  | .ptr id sz 0 0 => match σ id with
    | some k => .nptr k.e sz (resL (res (killS p σ)) k.es)
    | none => .any
  | v => res (killS p σ) v

def expOK1 (σ : Store) (p : Nat → Bool) (v : AV) : Prop :=
  match v with
  | .own id sz 0 n => ∃ k, σ id = some k ∧ k.sz = sz ∧ n ≤ k.es.length ∧ AV.namesL p k.es = false
  | .ptr id sz 0 0 => ∃ k, σ id = some k ∧ k.sz = sz ∧ AV.namesL p k.es = false
  | v => AV.namesB p v = false

def expOK (σ : Store) (vs : List AV) : Prop := (topIds vs).Nodup ∧ ∀ v ∈ vs, expOK1 σ (topP vs) v

theorem content_of (hinv : Inv w ρ Im σ) {p : Nat → Bool} {id b : Nat} {k : Blk} (hk : σ id = some k) (hρ : ρ id = some b) (hz : k.sz ≠ 0) (hn : AV.namesL p k.es = false) (n : Nat) :
    Content w (Seen Im (killR p ρ)) k.e k.sz (resL (res (killS p σ)) (k.es.take n)) b := by
  obtain ⟨cur, hb, hl, hs, hc⟩ := hinv.blk id k b hk hρ hz
  have get : ∀ {i x}, (resL (res (killS p σ)) (k.es.take n))[i]? = some x → ∃ e, k.es[i]? = some e ∧ (x = res (killS p σ) e ∨ (x = e ∧ ∀ id, ¬ Names e id)) := fun {i x} h => by
    obtain ⟨e, he, hor⟩ := resL_get h
    rw [List.getElem?_take] at he
    split at he
    · exact ⟨e, he, hor⟩
    · cases he
  refine ⟨cur, hb, fun x hx => ?_, ?_, fun i x j c hi hcj => ?_⟩
  · obtain ⟨i, hi⟩ := List.mem_iff_getElem?.1 hx
    obtain ⟨e, he, hor⟩ := get hi
    rcases hor with rfl | ⟨rfl, _⟩
    · rw [show (res (killS p σ) e).cells.length = e.cells.length from resF_len 8 _ e]; exact hl e (List.mem_of_getElem? he)
    · exact hl _ (List.mem_of_getElem? he)
  · rw [resL_length]; simp only [List.length_take]
    exact Nat.le_trans (Nat.mul_le_mul_right _ (Nat.min_le_right _ _)) hs
  · obtain ⟨e, he, hor⟩ := get hi
    have hlen : x.cells.length = e.cells.length := by
      rcases hor with rfl | ⟨rfl, _⟩
      · exact resF_len 8 _ e
      · rfl
    have hj : j < e.cells.length := by rw [← hlen]; exact (List.getElem?_eq_some_iff.1 hcj).1
    obtain ⟨v, hv, h1, _⟩ := hc i e j _ he (List.getElem?_eq_getElem hj)
    refine ⟨v, hv, h1, ?_⟩
    have hrep : ∀ c0, e.cells[j]? = some c0 → Rep w (killR p ρ) Im c0 v := fun c0 hc0 => by
      obtain ⟨v', hv', _, hr⟩ := hc i e j c0 he hc0
      rw [hv] at hv'; cases hv'
      refine hr.killR fun id' hid => ?_
      cases hp : p id' with
      | false => rfl
      | true =>
        have := (AV.namesL_iff p k.es).2 ⟨e, List.mem_of_getElem? he, AV.namesB_of p (cells_names (List.mem_of_getElem? hc0) hid) hp⟩
        rw [hn] at this; cases this
    rcases hor with rfl | ⟨rfl, hnn⟩
    · exact resF_cell (hinv.kill p) 8 hcj hrep
    · exact (irep_of_nameless (hrep c hcj) fun id hid => hnn id (cells_names (List.mem_of_getElem? hcj) hid)).mono (fun b hb => .inl hb) (fun _ _ => rfl)

/-- One value is handed back. -/
theorem expo_sound (hinv : Inv w ρ Im σ) {p : Nat → Bool} {v : AV} {y : Value} (hr : Rep w ρ Im v y) (hok : expOK1 σ p v) : ∃ ob, R1 w (Seen Im (killR p ρ)) (expo σ p v) y ob ∧ ∀ b, ob = some b → ∃ id, id ∈ topIds [v] ∧ ρ id = some b := by
  have other : (∀ id sz n, v ≠ .own id sz 0 n) → (∀ id sz, v ≠ .ptr id sz 0 0) → AV.namesB p v = false → expo σ p v = res (killS p σ) v → ∃ ob, R1 w (Seen Im (killR p ρ)) (expo σ p v) y ob ∧ ∀ b, ob = some b → ∃ id, id ∈ topIds [v] ∧ ρ id = some b := by
    intro h1 h2 hn he
    have hres := res_sound (hinv.kill p) (hr.killR (p := p) fun id hid => by
      cases hp : p id with
      | false => rfl
      | true => have := AV.namesB_of p hid hp; rw [hn] at this; cases this)
    refine ⟨none, ?_, fun b hb => by cases hb⟩
    rw [he]
    unfold R1
    split
    · rename_i e; rw [e] at hres; cases hres
    · rename_i e; rw [e] at hres; cases hres
    · exact ⟨rfl, hres⟩
  cases v with
  | own id sz i n =>
    cases i with
    | succ i => exact other (fun _ _ _ h => by cases h) (fun _ _ h => by cases h) hok rfl
    | zero =>
      obtain ⟨k, hk, rfl, hle, hn⟩ := hok
      have hex : expo σ p (.own id k.sz 0 n) = .new k.e k.sz (resL (res (killS p σ)) (k.es.take n)) := by simp only [expo, hk]
      rw [hex]
      have hlen : (resL (res (killS p σ)) (k.es.take n)).length = n := by rw [resL_length]; simp [Nat.min_eq_left hle]
      rcases hr.own0_inv with ⟨rfl, rfl, hρ⟩ | ⟨b, cap, cur, e, rfl, hρ, hnc, hcap, hb, hsz, hz⟩
      · exact ⟨none, .inl ⟨rfl, by simp [resL], rfl⟩, fun b hb => by cases hb⟩
      · refine ⟨some b, .inr ⟨b, cap, hz, rfl, by rw [hlen], by rw [hlen]; exact hnc, hcap, ⟨cur, ?_, hsz⟩, content_of hinv hk hρ hz hn n⟩, fun b' hb' => by cases hb'; exact ⟨id, by simp [topIds], hρ⟩⟩
        obtain ⟨cur2, hb2, _⟩ := hinv.blk id k b hk hρ hz
        rw [hb] at hb2; cases hb2; exact hb
  | ptr id sz i j =>
    cases i with
    | succ i => exact other (fun _ _ _ h => by cases h) (fun _ _ h => by cases h) hok rfl
    | zero =>
      cases j with
      | succ j => exact other (fun _ _ _ h => by cases h) (fun _ _ h => by cases h) hok rfl
      | zero =>
        obtain ⟨k, hk, rfl, hn⟩ := hok
        have hex : expo σ p (.ptr id k.sz 0 0) = .nptr k.e k.sz (resL (res (killS p σ)) k.es) := by simp only [expo, hk]
        rw [hex]
        cases hr with
        | im _ _ hr => cases hr
        | ptr _ _ _ _ b hρ hz =>
          have := content_of hinv hk hρ hz hn k.es.length
          rw [List.take_length] at this
          exact ⟨some b, ⟨b, hz, rfl, by simp, this⟩, fun b' hb' => by cases hb'; exact ⟨id, by simp [topIds], hρ⟩⟩
  | _ => exact other (fun _ _ _ h => by cases h) (fun _ _ h => by cases h) hok rfl

theorem expoL_sound (hinv : Inv w ρ Im σ) {p : Nat → Bool} : ∀ (vs : List AV) (ys : List Value), Reps w ρ Im vs ys → (∀ v ∈ vs, expOK1 σ p v) → (topIds vs).Nodup →
    ∃ obs, RL w (Seen Im (killR p ρ)) (vs.map (expo σ p)) ys obs ∧ (∀ b, some b ∈ obs → ∃ id ∈ topIds vs, ρ id = some b) ∧ obs.Pairwise fun x y => x = none ∨ x ≠ y
  | [], [], _, _, _ => ⟨[], trivial, fun b hb => by simp at hb, .nil⟩
  | [], y :: ys, h, _, _ => by simp [Reps] at h
  | v :: vs, [], h, _, _ => by simp [Reps] at h
  | v :: vs, y :: ys, h, hok, hnd => by
    obtain ⟨ob, h1, h2⟩ := expo_sound hinv (h.2 0 v y rfl rfl) (hok v (by simp))
    have htop : ∀ id, id ∈ topIds (v :: vs) ↔ id ∈ topIds [v] ∨ id ∈ topIds vs := fun id => by
      cases v with
      | own i s o n => cases o <;> simp [topIds]
      | ptr i s o j => cases o <;> cases j <;> simp [topIds]
      | _ => simp [topIds]
    have hnd' : (topIds vs).Nodup ∧ ∀ id, id ∈ topIds [v] → id ∉ topIds vs := by
      cases v with
      | own i s o n => cases o <;> simp_all [topIds]
      | ptr i s o j => cases o <;> cases j <;> simp_all [topIds]
      | _ => simp_all [topIds]
    obtain ⟨obs, h3, h4, h5⟩ := expoL_sound hinv vs ys ⟨by simpa using h.1, fun j c z hc hz => h.2 (j + 1) c z (by simpa using hc) (by simpa using hz)⟩ (fun x hx => hok x (by simp [hx])) hnd'.1
    refine ⟨ob :: obs, ⟨h1, h3⟩, fun b hb => ?_, List.pairwise_cons.2 ⟨fun x hx => ?_, h5⟩⟩
    · rcases List.mem_cons.1 hb with hb | hb
      · obtain ⟨id, hid, hρ⟩ := h2 b hb.symm; exact ⟨id, (htop id).2 (.inl hid), hρ⟩
      · obtain ⟨id, hid, hρ⟩ := h4 b hb; exact ⟨id, (htop id).2 (.inr hid), hρ⟩
    · cases ob with
      | none => exact .inl rfl
      | some b =>
        refine .inr fun e => ?_
        subst e
        obtain ⟨id, hid, hρ⟩ := h2 b rfl
        obtain ⟨id', hid', hρ'⟩ := h4 b hx
        have := hinv.inj id id' b hρ hρ'
        subst this
        exact hnd'.2 id hid hid'

/-- Results in their slots. -/
def rvals (P : Program) (E : Env) (σ : Store) : List ResultVar → (List AV → Prop) → Prop
  | [], K => K []
  | .tmp t :: r, K => rvals P E σ r fun vs => K (E t :: vs)
  | .cell t ty :: r, K => cellsAt σ (E t) fun cs j => ∃ v, partOf P ty cs j v ∧ rvals P E σ r fun vs => K (v :: vs)

def AV.single : AV → Bool
  | .tup _ => false
  | .clo _ _ => false
  | _ => true

def retK (σ : Store) (R : AV → Prop) (vs : List AV) : Prop :=
  match vs with
  | [.clo g caps] => expOK σ caps ∧ R (.clo g (caps.map (expo σ (topP caps))))
  | [v] => v.single = true ∧ expOK σ [v] ∧ R (expo σ (topP [v]) v)
  | vs => expOK σ vs ∧ R (.tup (vs.map (expo σ (topP vs))))

def ResultVar.low (N : Nat) : ResultVar → Bool
  | .tmp t => decide (t < N)
  | .cell t _ => decide (t < N)

def readR (tm : Array Value) : ResultVar → Sem Value
  | .tmp t => pure (tm.getD t undef)
  | .cell t ty => do loadVar ty (← asAddr (tm.getD t undef))

theorem rvals_sound (hinv : Inv w ρ Im σ) {tm : Array Value} (henv : EnvRep w ρ Im E tm) : ∀ (l : List ResultVar) (K : List AV → Prop), (l.all (ResultVar.low tm.size)) = true → rvals P E σ l K →
    ∃ vs ys, K vs ∧ Reps w ρ Im vs ys ∧ (l.mapM (readR tm)).run P w = .ok ys w
  | [], K, _, h => ⟨[], [], h, ⟨rfl, fun j c y hc => by simp at hc⟩, by simp⟩
  | .tmp t :: r, K, hl, h => by
    simp only [List.all_cons, Bool.and_eq_true, ResultVar.low, decide_eq_true_eq] at hl
    obtain ⟨vs, ys, hK, hr, hrun⟩ := rvals_sound hinv henv r _ hl.2 h
    refine ⟨E t :: vs, tm.getD t undef :: ys, hK, ⟨by simp [hr.1], fun j c y hc hy => ?_⟩, by simp [Sem.run_bind, readR, hrun]⟩
    cases j with
    | zero => simp at hc hy; subst hc; rw [← hy]; exact henv t _ (by simp [hl.1])
    | succ j => exact hr.2 j c y (by simpa using hc) (by simpa using hy)
  | .cell t ty :: r, K, hl, h => by
    simp only [List.all_cons, Bool.and_eq_true, ResultVar.low, decide_eq_true_eq] at hl
    have ht := henv t (tm.getD t undef) (by simp [hl.1])
    obtain ⟨cs, j, b, o, zs, ⟨v, hp, h⟩, hy, hzr, hz1, hzc⟩ := cellsAt_sound hinv h ht
    obtain ⟨y, hload, hrep⟩ := load_sound (P := P) hp hzr hz1 hzc
    obtain ⟨vs, ys, hK, hr, hrun⟩ := rvals_sound hinv henv r _ hl.2 h
    refine ⟨v :: vs, y :: ys, hK, ⟨by simp [hr.1], fun j c z hc hz => ?_⟩, by simp [readR, hy, asAddr, hload, hrun]⟩
    cases j with
    | zero => simp at hc hz; subst hc; subst hz; exact hrep
    | succ j => exact hr.2 j c z (by simpa using hc) (by simpa using hz)

/-- What a function's caller hands it. -/
def initE (args : List AV) : Env := fun t => args.getD t (.v undef)

def retQ (S : Sp) (fn : Func) (R : AV → Prop) : Exit → Env → Store → Prop
  | .normal => fun E σ => rvals S.P E σ fn.results.toList (retK σ R)
  | .ret => fun E σ => rvals S.P E σ fn.results.toList (retK σ R)
  | _ => fun _ _ => False

/-- What is left of a state when deferred calls are done. -/
structure Rest (C : Fx) (E : Env) (σ : Store) (tm : Array Value) (w : World) (ρ : Nat → Option Nat) (Im : Nat → Prop) (M : Str) : Prop where
  inv : Inv w ρ Im σ
  env : EnvRep w ρ Im E tm
  size : tm.size = C.N
  ext : Ext C.w0 C.X0 w
  rng : ∀ id b, ρ id = some b → C.X0 b ∨ C.w0.heap.size ≤ b
  im : ∀ b, Im b → C.Im0 b ∨ C.w0.heap.size ≤ b
  g : C.G (E C.N) M w
  gh : ∀ p, AV.namesB p (E C.N) = false
  js : ∀ b, M.j b → Im b
  ms : ∀ b, M.m b → b < w.heap.size ∧ (∀ id, ρ id ≠ some b) ∧ ¬ Im b ∧ (C.X0 b ∨ C.w0.heap.size ≤ b)
  pin : ∀ id ob, C.pin id = some ob → ρ id = ob
  j0 : ∀ b, C.J0 b → Im b

theorem rest_defers {S : Sp} (hG : GStable C.G) {fn : Func} {n : Nat} {R : Ending → World → Prop} {tm : Array Value} : ∀ (ds : List Deferred) (w : World), Rest C E σ tm w ρ Im M → ds.Nodup →
    (∀ d ∈ ds, ∃ D, d = stamp D ∧ w.heap[D]? = some (.deferred (some [])) ∧ C.w0.heap.size ≤ D ∧ (∀ id, ρ id ≠ some D) ∧ ¬ Im D ∧ ¬ M.m D) →
    (∀ w', Rest C E σ tm w' ρ Im M → ∃ v, (results fn tm).run S.P w' = .ok v w' ∧ R (.returned v) w') → LeavesInM (FW none) n S.P fn tm R ds .returning w
  | [], w, h, _, _, hR => hR w h
  | d :: ds, w, h, hnd, hd, hR => by
    obtain ⟨D, rfl, hD, hle, hρ, hI, hM⟩ := hd d (by simp)
    rw [List.nodup_cons] at hnd
    refine ⟨by simp, .inl ⟨D, _, rfl, run_takeDeferred hD, ?_⟩⟩
    have hoth : ∀ k, k ≠ D → (w.putObj D (.deferred none)).heap[k]? = w.heap[k]? := fun k hk => World.putObj_heap_other hk
    have rep : ∀ {v : AV} {y : Value}, Rep w ρ Im v y → Rep (w.putObj D (.deferred none)) ρ Im v y := fun {v y} hr =>
      Rep.mono (w := w) (w' := w.putObj D (.deferred none)) (fun _ h => h) (fun b hb => hoth b fun e => hI (e ▸ hb)) hr fun i _ => ⟨rfl, fun b hb cur e hc => ⟨cur, by rw [hoth b fun e => hρ i (e ▸ hb)]; exact hc, rfl⟩⟩
    refine rest_defers hG ds _ ⟨⟨h.inv.nil, fun i k b hk hb hz => ?_, fun i k b hk hb hz => ?_, h.inv.inj, h.inv.live, h.inv.apart, fun b hb => by simpa using h.inv.low b hb⟩, fun t y hy => rep (h.env t y hy), h.size,
      h.ext.trans ⟨rfl, rfl, rfl, by simp, fun k _ hk => hoth k hk⟩ (fun b hb => .inr (by subst hb; exact hle)), h.rng, h.im, hG _ _ _ _ h.g (fun k hk => hoth k fun e => by
        rcases hk with hk | hk
        · exact hM (e ▸ hk)
        · exact hI (e ▸ h.js k hk)) (by simp) rfl rfl rfl, h.gh, h.js, fun b hb => by simpa using h.ms b hb, h.pin, h.j0⟩ hnd.2 (fun d' hd' => ?_) hR
    · obtain ⟨ents, clk, hbb, hl, hc⟩ := h.inv.map i k b hk hb hz
      exact ⟨ents, clk, by rw [hoth b fun e => hρ i (e ▸ hb)]; exact hbb, hl, fun i m hm => by obtain ⟨v, hv, hr⟩ := hc i m hm; exact ⟨v, hv, rep hr⟩⟩
    · obtain ⟨cur, hbb, hl, hs, hc⟩ := h.inv.blk i k b hk hb hz
      exact ⟨cur, by rw [hoth b fun e => hρ i (e ▸ hb)]; exact hbb, hl, hs, fun i e j c he hcc => by obtain ⟨v, hv, h1, hr⟩ := hc i e j c he hcc; exact ⟨v, hv, h1, rep hr⟩⟩
    · obtain ⟨D', e', hD', rest⟩ := hd d' (by simp [hd'])
      refine ⟨D', e', ?_, rest⟩
      rw [hoth D' fun e => by subst e; subst e'; exact hnd.1 hd']; exact hD'

end Go.Vai

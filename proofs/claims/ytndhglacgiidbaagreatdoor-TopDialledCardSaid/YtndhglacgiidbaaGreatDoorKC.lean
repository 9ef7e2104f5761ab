/- A heap-free account of the walk, third part -/
import Derived.Test.YtndhglacgiidbaaGreatDoorKB
set_option linter.unusedVariables false
set_option linter.unusedSimpArgs false
namespace Go.Vai
open Go.RowKit
variable {P : Program} {C : Fx} {w : World} {ρ : Nat → Option Nat} {Im : Nat → Prop} {M : Str} {E : Env} {σ : Store} {a : Act}
abbrev Word := List (List AV) → Bool → Str → World → Prop
def SStable (G : Word) : Prop := ∀ xs s, GStable fun _ => G xs s
def Answers (P : Program) (l : Nat) (L : Nat → Prop) (G : Word) : Prop :=
  ∀ x rest M (w : World) (Im : Nat → Prop) (vs : List Value), G (x :: rest) false M w → (∀ b, Im b → b < w.heap.size ∧ ¬ M.m b) → (∀ b, M.m b → b < w.heap.size) → (∀ b, M.j b → Im b) → (∀ b, Im b → L b) → IReps w Im x vs → ∀ n,
    ∃ fn tmps assign body, (Instr.yield l vs.toArray).run P w = .ok (.round l fn tmps assign body) w ∧ RoundIn (FW none) n P l fn tmps assign body w fun e w' =>
      ∃ b M', e = .returned (.bool b) ∧ G rest (!b) M' w' ∧ (∀ k, M'.m k → k < w'.heap.size ∧ (M.m k ∨ w.heap.size ≤ k)) ∧ (∀ k, M'.j k → Im k) ∧ Ext w M.m w'
def SOK (P : Program) (g : FuncId) (args : List AV) (σ : Store) (xs : List (List AV)) : Prop :=
  (∀ as w, (callFunc g as).run P w = .ok (.enter g as) w) ∧
  ∀ (w : World) (Im : Nat → Prop) (ρ : Nat → Option Nat) (vs : List Value) (l : Nat) (G : Word) (M0 : Str), SStable G → Inv w ρ Im σ → GOK w Im → Reps w ρ Im args vs →
    (∀ b, M0.m b → b < w.heap.size ∧ (∀ id, ρ id ≠ some b) ∧ ¬ Im b) → (∀ b, M0.j b → Im b) → Answers P l (fun b => Im b ∨ w.heap.size ≤ b) G → G xs false M0 w →
    Calls P g (.func (.yield l) #[] #[] :: vs).toArray w fun e w' => ∃ y rest s M', e = .returned y ∧ (rest = [] ∨ s = true) ∧ G rest s M' w' ∧ Ext w (fun b => (∃ id, ρ id = some b) ∨ M0.m b) w'
def encG (xs : List (List AV)) : Bool → AV
  | false => .tup (xs.map .tup)
  | true => .any
def seqY (args : List AV) (g : AV) (K : AV → AV → Prop) : Prop := match g with
  | .tup (.tup x :: rest) => args = x ∧ K (.v (.bool true)) (.tup rest) ∧ K (.v (.bool false)) .any
  | _ => False
def spY (P : Program) (f : FuncId) (N l : Nat) : Sp := { P, N, b := 131072 * (f + 1), pin := fun _ => false, yl := l, Y := seqY }
theorem names_all {a : AV} (h : AV.namesB allB a = false) (p : Nat → Bool) : AV.namesB p a = false := by
  cases hp : AV.namesB p a with
  | false => rfl
  | true =>
    have key : ∀ a : AV, AV.namesB p a = true → ∃ id, Names a id := by
      intro a
      suffices h : ∀ n (a : AV), SizeOf.sizeOf a < n → AV.namesB p a = true → ∃ id, Names a id from h _ a (Nat.lt_succ_self _)
      intro n
      induction n with
      | zero => intro a h; omega
      | succ n ih =>
        intro a hs hn
        have lst : ∀ cs : List AV, (∀ c ∈ cs, SizeOf.sizeOf c < n) → AV.namesL p cs = true → ∃ c ∈ cs, ∃ id, Names c id := fun cs hcs hl => by
          obtain ⟨c, hc, hcn⟩ := (AV.namesL_iff p cs).1 hl
          exact ⟨c, hc, ih c (hcs c hc) hcn⟩
        cases a with
        | own i s o m => exact ⟨i, .own ..⟩
        | ptr i s o m => exact ⟨i, .ptr ..⟩
        | mref i => exact ⟨i, .mref ..⟩
        | agg cs =>
          obtain ⟨c, hc, id, hid⟩ := lst cs (fun c hc => by have := List.sizeOf_lt_of_mem hc; simp at hs; omega) hn
          exact ⟨id, .agg cs c id hc hid⟩
        | tup cs =>
          obtain ⟨c, hc, id, hid⟩ := lst cs (fun c hc => by have := List.sizeOf_lt_of_mem hc; simp at hs; omega) hn
          exact ⟨id, .tup cs c id hc hid⟩
        | clo g cs =>
          obtain ⟨c, hc, id, hid⟩ := lst cs (fun c hc => by have := List.sizeOf_lt_of_mem hc; simp at hs; omega) hn
          exact ⟨id, .clo g cs c id hc hid⟩
        | _ => simp [AV.namesB] at hn
    obtain ⟨id, hid⟩ := key a hp
    have := AV.namesB_of allB hid rfl
    rw [h] at this; cases this
theorem namesL_cons {x : AV} {l : List AV} (h : AV.namesL allB (x :: l) = false) : AV.namesB allB x = false ∧ AV.namesL allB l = false := by
  simpa [AV.namesL] using h
theorem sok_core {f : FuncId} {fn : Func} {c : Code} {args : List AV} {xs : List (List AV)} {B O : Nat → Bool} (hf : P.funcs[f]? = some fn) (hb : fn.body = some c) (h1 : codeOK P fn.ntmps B c = true) (h2 : fn.results.toList.all (ResultVar.low fn.ntmps) = true) (h3 : (fn.name == "runtime.NumGoroutine") = false) (h4 : fn.ntmps ≤ 99999) (hmo : P.follows .mixedOrders = true)
    (hlen : args.length < fn.ntmps) (hxs : AV.namesL allB (xs.map .tup) = false) (hold : ∀ id k, σ id = some k → O id = true)
    (h : ∀ l, awp ({ P, N := fn.ntmps, b := 131072 * (f + 1), pin := fun _ => false, yl := l, Y := seqY, bad := B, old := O } : Sp) c (retG P fn fun _ E _ => E fn.ntmps = .tup [] ∨ E fn.ntmps = .any) (upd (initE (.yld l :: args)) fn.ntmps (encG xs false)) σ) : SOK P f args σ xs := by
  refine ⟨enters hf hb h3, fun w Im ρ vs l G M0 hG hinv hgk hargs hM hJ hans hG0 => ?_⟩
  let C : Fx := { w0 := w, X0 := fun b => (∃ id, ρ id = some b) ∨ M0.m b, Im0 := Im, G := fun g M w => ∃ ys s, g = encG ys s ∧ AV.namesL allB (ys.map .tup) = false ∧ G ys s M w, N := fn.ntmps, rd := none, pin := fun _ => none, J0 := Im, R0 := fun id b => ρ id = some b }
  have H : Holds ({ P, N := fn.ntmps, b := 131072 * (f + 1), pin := fun _ => false, yl := l, Y := seqY, bad := B, old := O } : Sp) C := by
    refine ⟨rfl, ?_, ?_, hmo, fun _ _ hp => (by cases hp), fun _ hp => (by cases hp), h4, fun _ => rfl, fun id b _ hb => ?_, hgk, fun b hb => ⟨fun hx => ?_, hinv.low b (hgk.im hb)⟩, (fun h => by cases h)⟩
    rotate_left 2
    · cases hs : σ id with
      | none => exact absurd hs (hinv.live id b hb)
      | some k => exact hold id k hs
    · rcases hx with ⟨id, hid⟩ | hx
      · exact hinv.apart id b hid (hgk.im hb)
      · exact (hM b hx).2.2 (hgk.im hb)
    · rintro g M w w' ⟨ys, s, e, hn, hg⟩ hb hs ho ht hout
      exact ⟨ys, s, e, hn, hG ys s (.v undef) M w w' hg hb hs ho ht hout⟩
    · intro as g K hY w1 Im1 M1 vs1 hI hM1 hJ1 hL hvs ⟨ys, s, e, hn, hg⟩ n
      subst e
      cases s with
      | true => exact hY.elim
      | false =>
        cases ys with
        | nil => exact hY.elim
        | cons x rest =>
          obtain ⟨rfl, hK1, hK2⟩ := hY
          obtain ⟨hnx, hnr⟩ := namesL_cons hn
          obtain ⟨fn', tmps, assign, body, hr, hround⟩ := hans as rest M1 w1 Im1 vs1 hg hI hM1 hJ1 hL hvs n
          refine ⟨fn', tmps, assign, body, hr, hround.mono ?_⟩
          rintro e w' ⟨b, M', rfl, hg', hm, hj, hx⟩
          cases b with
          | true => exact ⟨_, .tup (rest.map .tup), M', rfl, ⟨true, rfl⟩, hK1, fun p => names_all (a := .tup (rest.map .tup)) hnr p, ⟨rest, false, rfl, hnr, hg'⟩, hm, hj, hx⟩
          | false => exact ⟨_, .any, M', rfl, ⟨false, rfl⟩, hK2, fun p => rfl, ⟨rest, true, rfl, hnr, hg'⟩, hm, hj, hx⟩
  have hyl : Reps w ρ Im (.yld l :: args) (.func (.yield l) #[] #[] :: vs) := by
    refine ⟨by simp [hargs.1], fun j c y hc hy => ?_⟩
    cases j with
    | zero => simp at hc hy; subst hc; subst hy; exact .im _ _ (.yld l)
    | succ j => exact hargs.2 j c y (by simpa using hc) (by simpa using hy)
  have henv : EnvRep w ρ Im (upd (initE (.yld l :: args)) fn.ntmps (encG xs false)) ((.func (.yield l) #[] #[] :: vs).toArray ++ Array.replicate (fn.ntmps - (.func (.yield l) #[] #[] :: vs).toArray.size) undef) := fun t y hy => by
    have hlt := (Array.getElem?_eq_some_iff.1 hy).1
    have hsz : ((Value.func (.yield l) #[] #[] :: vs).toArray ++ Array.replicate (fn.ntmps - (.func (.yield l) #[] #[] :: vs).toArray.size) undef).size = fn.ntmps := by
      have := hargs.1; simp; omega
    rw [hsz] at hlt
    simp only [upd]; rw [if_neg (by omega)]
    exact env_init hyl t y hy
  refine body_sound (E0 := upd (initE (.yld l :: args)) fn.ntmps (encG xs false)) (S := { P, N := fn.ntmps, b := 131072 * (f + 1), pin := fun _ => false, yl := l, Y := seqY, bad := B, old := O }) (C := C) (vs := .func (.yield l) #[] #[] :: vs) (σ0 := σ) (ρ0 := ρ) (Im0 := Im) (M0 := M0) H rfl hf hb rfl h1 h2 ?_ (h l) fun E σ' tm w' ρ' I M us ys hk hrest hr => ?_
  · refine ⟨hinv, henv, (?_ : _ = fn.ntmps), Ext.refl _ _, fun i b hi => .inl ⟨.inl ⟨i, hi⟩, hi⟩, fun b hb => .inl hb, fun p => ?_, ?_, hJ, fun b hb => ⟨(hM b hb).1, (hM b hb).2.1, (hM b hb).2.2, .inl (.inr hb)⟩, fun l r hr => (by cases hr), .nil, fun d hd => (by cases hd), fun b hb => ?_, fun id b hb => (by cases hb), fun b hb => hb⟩
    · have := hargs.1; simp; omega
    · show AV.namesB p (upd (initE (.yld l :: args)) fn.ntmps (encG xs false) fn.ntmps) = false
      rw [upd_same]; exact names_all (a := .tup (xs.map .tup)) hxs p
    · show ∃ ys s, upd (initE (.yld l :: args)) fn.ntmps (encG xs false) fn.ntmps = encG ys s ∧ _
      rw [upd_same]; exact ⟨xs, false, rfl, hxs, hG0⟩
    · rcases hb with ⟨r, hr⟩ | hd
      · cases hr
      · cases hd
  · obtain ⟨zs, s, e, _, hg⟩ := hrest.g
    refine ⟨_, zs, s, M, rfl, ?_, hg, hrest.ext⟩
    have e : E fn.ntmps = encG zs s := e
    rw [e] at hk
    cases s with
    | true => exact .inr rfl
    | false =>
      rcases hk with hk | hk
      · refine .inl ?_
        simp only [encG, AV.tup.injEq, List.map_eq_nil_iff] at hk; exact hk
      · cases hk
theorem sok_of_awp {f : FuncId} {fn : Func} {c : Code} {args : List AV} {xs : List (List AV)} (hf : P.funcs[f]? = some fn) (hb : fn.body = some c) (hok : fnOK P fn c = true) (hmo : P.follows .mixedOrders = true)
    (hlen : args.length < fn.ntmps) (hxs : AV.namesL allB (xs.map .tup) = false)
    (h : ∀ l, awp (spY P f fn.ntmps l) c (retG P fn fun _ E _ => E fn.ntmps = .tup [] ∨ E fn.ntmps = .any) (upd (initE (.yld l :: args)) fn.ntmps (encG xs false)) σ) : SOK P f args σ xs := by
  obtain ⟨h1, h2, h3, h4⟩ := fnOK_spec hok
  exact sok_core hf hb h1 h2 h3 h4 hmo hlen hxs (fun _ _ _ => rfl) h
end Go.Vai
namespace Go.Vai
open Go.RowKit
variable {P : Program} {C : Fx} {w w' : World} {ρ : Nat → Option Nat} {Im : Nat → Prop} {M : Str} {E : Env} {σ : Store} {a : Act}
structure Core (C : Fx) (E : Env) (σ : Store) (a : Act) (w : World) (ρ : Nat → Option Nat) (Im : Nat → Prop) (M : Str) : Prop where
  inv : Inv w ρ Im σ
  env : EnvRep w ρ Im E a.tmps
  size : a.tmps.size = C.N
  rng : ∀ id b, ρ id = some b → (C.X0 b ∧ C.R0 id b) ∨ C.w0.heap.size ≤ b
  im : ∀ b, Im b → C.Im0 b ∨ C.w0.heap.size ≤ b
  gh : ∀ p, AV.namesB p (E C.N) = false
  g : C.G (E C.N) M w
  js : ∀ b, M.j b → Im b
  ms : ∀ b, M.m b → b < w.heap.size ∧ (∀ id, ρ id ≠ some b) ∧ ¬ Im b ∧ (C.X0 b ∨ C.w0.heap.size ≤ b)
  rd : ∀ l r, C.rd = some (l, r) → w.heap[l]? = some (.loop r)
  nodup : a.defers.Nodup
  df : ∀ d ∈ a.defers, ∃ D, d = stamp D ∧ w.heap[D]? = some (.deferred (some [])) ∧ C.w0.heap.size ≤ D
  bk : ∀ b, C.book a b → (∀ id, ρ id ≠ some b) ∧ ¬ Im b ∧ ¬ M.m b
  pin : ∀ id ob, C.pin id = some ob → ρ id = ob
  j0 : ∀ b, C.J0 b → Im b
theorem Wit.core (h : Wit C E σ a w ρ Im M) : Core C E σ a w ρ Im M := ⟨h.inv, h.env, h.size, h.rng, h.im, h.gh, h.g, h.js, h.ms, h.rd, h.nodup, h.df, h.bk, h.pin, h.j0⟩
theorem Core.wit (h : Core C E σ a w ρ Im M) (hx : Ext C.w0 C.X0 w) : Wit C E σ a w ρ Im M := ⟨h.inv, h.env, h.size, hx, h.rng, h.im, h.gh, h.g, h.js, h.ms, h.rd, h.nodup, h.df, h.bk, h.pin, h.j0⟩
theorem Inv.carry (h : Inv w ρ Im σ) (hb : ∀ k, (∃ id, ρ id = some k) ∨ Im k → w'.heap[k]? = w.heap[k]?) (hs : w.heap.size ≤ w'.heap.size) : Inv w' ρ Im σ := by
  have rep : ∀ {v : AV} {y : Value}, Rep w ρ Im v y → Rep w' ρ Im v y := fun {v y} hr =>
    Rep.mono (w := w) (w' := w') (fun _ h => h) (fun b hI => hb b (.inr hI)) hr fun i _ => ⟨rfl, fun b hi cur e hc => ⟨cur, by rw [hb b (.inl ⟨i, hi⟩)]; exact hc, rfl⟩⟩
  exact ⟨h.nil, fun i k b hk hi hz => by
      obtain ⟨ents, clk, hbb, hl, hc⟩ := h.map i k b hk hi hz
      exact ⟨ents, clk, by rw [hb b (.inl ⟨i, hi⟩)]; exact hbb, hl, fun i m hm => by obtain ⟨v, hv, hr⟩ := hc i m hm; exact ⟨v, hv, rep hr⟩⟩,
    fun i k b hk hi hz => by
      obtain ⟨cur, hbb, hl, hs, hc⟩ := h.blk i k b hk hi hz
      exact ⟨cur, by rw [hb b (.inl ⟨i, hi⟩)]; exact hbb, hl, hs, fun i e j c he hcc => by obtain ⟨v, hv, h1, hr⟩ := hc i e j c he hcc; exact ⟨v, hv, h1, rep hr⟩⟩,
    h.inj, h.live, h.apart, fun b hI => Nat.lt_of_lt_of_le (h.low b hI) hs⟩
theorem Core.bklt (h : Core C E σ a w ρ Im M) {b : Nat} (hb : C.book a b) : b < w.heap.size := by
  rcases hb with ⟨r, hr⟩ | hd
  · exact (Array.getElem?_eq_some_iff.1 (h.rd b r hr)).1
  · obtain ⟨D, e, hD, _⟩ := h.df _ hd
    rw [stamp_inj e]; exact (Array.getElem?_eq_some_iff.1 hD).1
theorem Core.carry (hG : GStable C.G) (h : Core C E σ a w ρ Im M) (hb : ∀ k, (∃ id, ρ id = some k) ∨ Im k ∨ M.m k ∨ C.book a k → w'.heap[k]? = w.heap[k]?) (hs : w.heap.size ≤ w'.heap.size)
    (ho : w'.os = w.os) (ht : w'.tape = w.tape) (hout : w'.output = w.output) : Core C E σ a w' ρ Im M where
  inv := h.inv.carry (fun k hk => hb k (by rcases hk with h | h <;> simp [h])) hs
  env := fun t y hy => Rep.mono (w := w) (w' := w') (fun _ h => h) (fun b hI => hb b (.inr (.inl hI))) (h.env t y hy) fun i _ => ⟨rfl, fun b hi cur e hc => ⟨cur, by rw [hb b (.inl ⟨i, hi⟩)]; exact hc, rfl⟩⟩
  size := h.size
  rng := h.rng
  im := h.im
  gh := h.gh
  g := hG _ _ _ _ h.g (fun k hk => hb k (by rcases hk with hk | hk; exact .inr (.inr (.inl hk)); exact .inr (.inl (h.js k hk)))) hs ho ht hout
  js := h.js
  ms := fun b hm => by obtain ⟨h1, h2⟩ := h.ms b hm; exact ⟨Nat.lt_of_lt_of_le h1 hs, h2⟩
  rd := fun l r hr => by rw [hb l (.inr (.inr (.inr (.inl ⟨r, hr⟩))))]; exact h.rd l r hr
  nodup := h.nodup
  df := fun d hd => by
    obtain ⟨D, e, hD, hl⟩ := h.df d hd
    exact ⟨D, e, by rw [hb D (.inr (.inr (.inr (.inr (e ▸ hd)))))]; exact hD, hl⟩
  bk := h.bk
  pin := h.pin
  j0 := h.j0
mutual
def AV.ownB : AV → Bool
  | .own _ _ _ _ => true
  | .agg cs => AV.ownL cs
  | .tup cs => AV.ownL cs
  | .clo _ cs => AV.ownL cs
  | _ => false
def AV.ownL : List AV → Bool
  | [] => false
  | c :: cs => AV.ownB c || AV.ownL cs
end
theorem AV.ownL_mem {cs : List AV} (h : AV.ownL cs = false) : ∀ c ∈ cs, AV.ownB c = false := by
  induction cs with
  | nil => simp
  | cons x cs ih =>
    simp only [AV.ownL, Bool.or_eq_false_iff] at h
    intro c hc; rcases List.mem_cons.1 hc with rfl | hc
    · exact h.1
    · exact ih h.2 c hc
def fade (nm : Nat → Bool) (a : AV) : AV := if (a.kill fun i => !nm i).ownB then .any else a.kill fun i => !nm i
def fadeE (nm : Nat → Bool) (E : Env) : Env := fun t => fade nm (E t)
theorem fade_names {nm : Nat → Bool} {a : AV} {id : Nat} (h : Names (fade nm a) id) : nm id = true ∧ Names a id := by
  unfold fade at h
  split at h
  · cases h
  · obtain ⟨h1, h2⟩ := AV.kill_names _ a id h; exact ⟨by simpa using h2, h1⟩
theorem fade_own (nm : Nat → Bool) (a : AV) : (fade nm a).ownB = false := by
  unfold fade; split
  · rfl
  · rename_i h; simpa using h
theorem Rep.fade {nm : Nat → Bool} {a : AV} {y : Value} (h : Rep w ρ Im a y) : Rep w ρ Im (Vai.fade nm a) y := by
  unfold Vai.fade; split
  · exact .im _ _ (.any _)
  · exact h.kill _
theorem fade_nameless {nm : Nat → Bool} {a : AV} (h : ∀ p, AV.namesB p a = false) : fade nm a = a := by
  have hk : a.kill (fun i => !nm i) = a := kill_of_not (h _)
  unfold fade
  rw [hk]
  have : a.ownB = false := by
    have h1 := h allB
    suffices hh : ∀ n (a : AV), SizeOf.sizeOf a < n → AV.namesB allB a = false → a.ownB = false from hh _ a (Nat.lt_succ_self _) h1
    intro n
    induction n with
    | zero => intro a h; omega
    | succ n ih =>
      intro a hs hn
      have lst : ∀ cs : List AV, (∀ c ∈ cs, SizeOf.sizeOf c < n) → AV.namesL allB cs = false → AV.ownL cs = false := by
        intro cs
        induction cs with
        | nil => intro _ _; rfl
        | cons c cs ihl =>
          intro hcs hl
          simp only [AV.namesL, Bool.or_eq_false_iff] at hl
          simp only [AV.ownL, Bool.or_eq_false_iff]
          exact ⟨ih c (hcs c (by simp)) hl.1, ihl (fun c hc => hcs c (by simp [hc])) hl.2⟩
      cases a with
      | own i s o m => simp [AV.namesB, allB] at hn
      | agg cs => exact lst cs (fun c hc => by have := List.sizeOf_lt_of_mem hc; simp at hs; omega) hn
      | tup cs => exact lst cs (fun c hc => by have := List.sizeOf_lt_of_mem hc; simp at hs; omega) hn
      | clo g cs => exact lst cs (fun c hc => by have := List.sizeOf_lt_of_mem hc; simp at hs; omega) hn
      | _ => rfl
  rw [this]; rfl
theorem Rep.stay {ρ' : Nat → Option Nat} {Im' : Nat → Prop} (hI : ∀ b, Im b → Im' b) (hc : ∀ b, Im b → w'.heap[b]? = w.heap[b]?) {a : AV} {y : Value} (h : Rep w ρ Im a y) (ho : a.ownB = false) (hρ : ∀ id, Names a id → ρ' id = ρ id) : Rep w' ρ' Im' a y := by
  induction h with
  | im a y h => exact .im a y (h.mono hI hc)
  | agg cs ys hl h1 _ ih => exact .agg cs ys hl h1 fun j c y hj hy => ih j c y hj hy (AV.ownL_mem ho c (List.mem_of_getElem? hj)) fun id hn => hρ id (.agg cs c id (List.mem_of_getElem? hj) hn)
  | tup cs ys hl _ ih => exact .tup cs ys hl fun j c y hj hy => ih j c y hj hy (AV.ownL_mem ho c (List.mem_of_getElem? hj)) fun id hn => hρ id (.tup cs c id (List.mem_of_getElem? hj) hn)
  | clo g cs ys hl _ ih => exact .clo g cs ys hl fun j c y hj hy => ih j c y hj hy (AV.ownL_mem ho c (List.mem_of_getElem? hj)) fun id hn => hρ id (.clo g cs c id (List.mem_of_getElem? hj) hn)
  | ownNil => cases ho
  | own => cases ho
  | ownAt => cases ho
  | ptr id sz i j b hr hz => exact .ptr id sz i j b (by rw [hρ id (.ptr ..)]; exact hr) hz
  | mref id b hr => exact .mref id b (by rw [hρ id (.mref ..)]; exact hr)
def setPs (E : Env) (ps : List Nat) (x : List AV) : Env := (ps.zip x).foldl (fun E p => upd E p.1 p.2) E
theorem setPs_rep {N : Nat} : ∀ (ps : List Nat) (x : List AV) (vs : List Value) (E : Env) (tm : Array Value), EnvRep w ρ Im E tm → IReps w Im x vs → tm.size = N → 
    EnvRep w ρ Im (setPs E ps x) ((ps.zip vs).foldl (fun tm (t, v) => tm.setIfInBounds t v) tm) ∧ ((ps.zip vs).foldl (fun tm (t, v) => tm.setIfInBounds t v) tm).size = N
  | [], x, vs, E, tm, h, _, hs => ⟨by simpa [setPs] using h, by simpa using hs⟩
  | p :: ps, [], vs, E, tm, h, hr, hs => by
    have : vs = [] := List.eq_nil_of_length_eq_zero (by have := hr.1; simpa using this.symm)
    subst this; exact ⟨by simpa [setPs] using h, by simpa using hs⟩
  | p :: ps, c :: x, [], E, tm, h, hr, hs => by have := hr.1; simp at this
  | p :: ps, c :: x, v :: vs, E, tm, h, hr, hs => by
    have h1 : EnvRep w ρ Im (upd E p c) (tm.setIfInBounds p v) := EnvRep.put (dst := some p) (tm := { tmps := tm, defers := [] }) h (.im _ _ (hr.2 0 c v rfl rfl))
    exact setPs_rep ps x vs (upd E p c) (tm.setIfInBounds p v) h1 ⟨by simpa using hr.1, fun j d y hd hy => hr.2 (j + 1) d y (by simpa using hd) (by simpa using hy)⟩ (by simpa using hs)
theorem setPs_out {N : Nat} : ∀ (ps : List Nat) (x : List AV) (E : Env), (∀ p ∈ ps, p < N) → setPs E ps x N = E N
  | [], x, E, _ => by simp [setPs]
  | p :: ps, [], E, _ => by simp [setPs]
  | p :: ps, c :: x, E, h => by
    have := setPs_out (N := N) ps x (upd E p c) fun q hq => h q (by simp [hq])
    simp only [setPs, List.zip_cons_cons, List.foldl_cons] at this ⊢
    rw [this]; simp only [upd]; rw [if_neg (by have := h p (by simp); omega)]
end Go.Vai
namespace Go.Vai
open Go.RowKit
variable {P : Program} {C : Fx} {w w' : World} {ρ : Nat → Option Nat} {Im : Nat → Prop} {M : Str} {E : Env} {σ : Store} {a : Act}
def spR (S : Sp) (b2 : Nat) (nm0 : Nat → Bool) : Sp := { P := S.P, N := S.N, b := b2, pin := nm0, rd := true, yl := 0, Y := fun _ _ _ => False, bad := S.bad }
def rQ (nm0 : Nat → Bool) (Q : Exit → Env → Store → Prop) (E0 : Env) (I : Store → Prop) : Exit → Env → Store → Prop
  | .normal => fun _ σ => ∃ p : Nat → Bool, (∀ id, nm0 id = true → p id = false) ∧ I (killS p σ)
  | .ret => fun _ σ => ∃ p : Nat → Bool, (∀ id, nm0 id = true → p id = false) ∧ Q .ret E0 (killS p σ)
  | .exit i => fun _ σ => ∃ p : Nat → Bool, (∀ id, nm0 id = true → p id = false) ∧ Q (.exit i) E0 (killS p σ)
  | _ => fun _ _ => False
def failQ : Exit → Env → Store → Prop := fun _ _ _ => False
def only (q : Nat → Bool) (σ : Store) : Store := fun id => if q id then σ id else none
theorem Inv.only {q : Nat → Bool} (h : Inv w ρ Im σ) (hq : ∀ id k, σ id = some k → q id = true → AV.namesL (fun i => !q i) k.es = false) : Inv w (killR (fun i => !q i) ρ) Im (Vai.only q σ) where
  nil := fun i k hk hr => by
    simp only [Vai.only] at hk; split at hk
    · rename_i hqi; rw [killR_of ρ (by simp [hqi])] at hr; exact h.nil i k hk hr
    · cases hk
  map := fun i k b hk hr hz => by
    simp only [Vai.only] at hk; split at hk
    · rename_i hqi
      rw [killR_of ρ (by simp [hqi])] at hr
      obtain ⟨ents, clk, hb, hl, hc⟩ := h.map i k b hk hr hz
      refine ⟨ents, clk, hb, hl, fun j m hm => ?_⟩
      obtain ⟨v, hv, hrv⟩ := hc j m hm
      refine ⟨v, hv, hrv.killR fun id hid => ?_⟩
      cases hp : (!q id) with
      | false => rfl
      | true =>
        have := (AV.namesL_iff (fun i => !q i) k.es).2 ⟨_, List.mem_of_getElem? hv, AV.namesB_of (fun i => !q i) (.tup _ v id (by simp) hid) hp⟩
        rw [hq i k hk hqi] at this; cases this
    · cases hk
  blk := fun i k b hk hr hz => by
    simp only [Vai.only] at hk; split at hk
    · rename_i hqi
      rw [killR_of ρ (by simp [hqi])] at hr
      obtain ⟨cur, hb, hl, hs, hc⟩ := h.blk i k b hk hr hz
      refine ⟨cur, hb, hl, hs, fun i' e j c he hcc => ?_⟩
      obtain ⟨x, hx, h1, hrx⟩ := hc i' e j c he hcc
      refine ⟨x, hx, h1, hrx.killR fun id hid => ?_⟩
      cases hp : (!q id) with
      | false => rfl
      | true =>
        have := (AV.namesL_iff (fun i => !q i) k.es).2 ⟨e, List.mem_of_getElem? he, AV.namesB_of (fun i => !q i) (cells_names (List.mem_of_getElem? hcc) hid) hp⟩
        rw [hq i k hk hqi] at this; cases this
    · cases hk
  inj := fun i j b h1 h2 => h.inj i j b (killR_some h1).2 (killR_some h2).2
  live := fun i b hr hs => by
    obtain ⟨hp, hr⟩ := killR_some hr
    simp only [Vai.only] at hs
    rw [if_pos (by simpa using hp)] at hs
    exact h.live i b hr hs
  apart := fun i b hr => h.apart i b (killR_some hr).2
  low := h.low
theorem Reps.only {q : Nat → Bool} {vs : List AV} {ys : List Value} (h : Reps w ρ Im vs ys) (hq : AV.namesL (fun i => !q i) vs = false) : Reps w (killR (fun i => !q i) ρ) Im vs ys :=
  ⟨h.1, fun j c y hc hy => (h.2 j c y hc hy).killR fun id hid => by
    cases hp : (!q id) with
    | false => rfl
    | true =>
      have := (AV.namesL_iff (fun i => !q i) vs).2 ⟨c, List.mem_of_getElem? hc, AV.namesB_of (fun i => !q i) hid hp⟩
      rw [hq] at this; cases this⟩
structure InLoop (C : Fx) (Q : Exit → Env → Store → Prop) (I : List (List AV) → Store → Prop) (E0 : Env) (a : Act) (l n lo : Nat) (r0 : Loop) (xs : List (List AV)) (s : Bool) (M' : Str) (w : World)
    (σ : Store) (ρ : Nat → Option Nat) (Im : Nat → Prop) (M : Str) (r : Loop) : Prop where
  len : ∀ x ∈ xs, x.length = n
  late : lo ≤ w.heap.size
  core : Core C E0 σ a w ρ Im M
  lrec : w.heap[l]? = some (.loop r)
  same : r = { r0 with state := r.state, pending := r.pending }
  lρ : ∀ id, ρ id ≠ some l
  lI : ¬ Im l
  lM : ¬ M.m l
  lb : ¬ C.book a l
  cov : ∀ b, (∃ id, ρ id = some b) ∨ M.m b ∨ b = l ∨ C.book a b → M'.m b
  covI : ∀ b, Im b → M'.m b ∨ M'.j b
  gok : GOK w Im
  st : (s = false ∧ r.state = .ready ∧ r.pending = none ∧ I xs σ) ∨ (s = true ∧ r.state = .done ∧ ((r.pending = some .ret ∧ Q .ret E0 σ) ∨ ∃ i, r.pending = some (.exit i) ∧ Q (.exit i) E0 σ))
theorem book_none {C : Fx} (h : C.rd = none) (a : Act) (b : Nat) : C.book a b ↔ stamp b ∈ a.defers := by simp [Fx.book, h]
theorem round_sound {S : Sp} {ps : Array Tmp} {as body : Code} {Q : Exit → Env → Store → Prop} (H : Holds S C) (hrd : C.rd = none) (hoA : codeOK S.P S.N S.bad as = true) (hoB : codeOK S.P S.N S.bad body = true) (hps : ∀ p ∈ ps.toList, p < S.N)
    {nm0 : Nat → Bool} {b2 : Nat} (hnm : ∀ id, S.pin id = true → nm0 id = true) (hb2 : ∀ id, nm0 id = true → id / 16 < b2 ∨ b2 + 100000 ≤ id / 16) {I : List (List AV) → Store → Prop} {E0 : Env} (hE0 : ∀ t, (E0 t).ownB = false ∧ ∀ id, Names (E0 t) id → nm0 id = true)
    (hround : ∀ x rest σ, I (x :: rest) σ → awp (spR S b2 nm0) as (thenQ (awp (spR S b2 nm0) body (rQ nm0 Q E0 (I rest))) failQ) (setPs E0 ps.toList x) σ)
    {l : Nat} {r0 : Loop} (hr0 : r0.params = ps ∧ r0.assign = as ∧ r0.body = body ∧ r0.tmps = a.tmps) (hl : C.w0.heap.size ≤ l) {wc : World} (hwc : C.w0.heap.size ≤ wc.heap.size) (hImc : ∀ b, Im b → C.Im0 b ∨ C.w0.heap.size ≤ b) (hlc : l < wc.heap.size) (hbc : ∀ b, C.book a b → b < wc.heap.size) :
    Answers S.P l (fun b => Im b ∨ wc.heap.size ≤ b) fun xs s M' w => ∃ σ ρ Im M r, InLoop C Q I E0 a l ps.size wc.heap.size r0 xs s M' w σ ρ Im M r := by
  rintro x rest M1 w1 Im1 vs1 ⟨σ, ρ, Ic, M, r, h⟩ hI1 hM1 hJ1 hL1 hvs n
  rcases h.st with ⟨_, hst, hpd, hinv⟩ | ⟨hs, _⟩
  rotate_left
  · cases hs
  have hrr : r = { r0 with state := .ready, pending := none } := by rw [h.same, hst, hpd]
  have hlenx : x.length = ps.size := h.len x (by simp)
  have hyield := run_yield (P := S.P) (args := vs1.toArray) h.lrec (by rw [hrr]; simp only [hr0.1, List.size_toArray, ← hvs.1, hlenx])
  have hf : ∀ (f : Array Value → Tmp × Value → Array Value) (t0 : Array Value), (ps.zip vs1.toArray).foldl f t0 = (ps.toList.zip vs1).foldl f t0 := fun f t0 => by
    rw [← Array.foldl_toList]; simp
  have htm : r.tmps = a.tmps := by rw [hrr]; exact hr0.2.2.2
  have hpar : r.params = ps := by rw [hrr]; exact hr0.1
  have has : r.assign = as := by rw [hrr]; exact hr0.2.1
  have hbo : r.body = body := by rw [hrr]; exact hr0.2.2.1
  rw [hpar, htm, has, hbo, hf] at hyield
  -- the round's activation
  have Im2 : ∀ b, Ic b ∨ Im1 b → b < w1.heap.size := fun b hb => by
    rcases hb with hb | hb
    · exact h.core.inv.low b hb
    · exact (hI1 b hb).1
  have dis : ∀ b, ((∃ id, ρ id = some b) ∨ M.m b ∨ b = l ∨ C.book a b) → ¬ (Ic b ∨ Im1 b) := fun b hb hI => by
    rcases hI with hI | hI
    · rcases hb with ⟨id, hid⟩ | hb | hb | hb
      · exact h.core.inv.apart id b hid hI
      · exact (h.core.ms b hb).2.2.1 hI
      · subst hb; exact h.lI hI
      · exact (h.core.bk b hb).2.1 hI
    · exact (hI1 b hI).2 (h.cov b hb)
  have hin2 : Inv w1 ρ (fun b => Ic b ∨ Im1 b) σ := by
    have rep : ∀ {v : AV} {y : Value}, Rep w1 ρ Ic v y → Rep w1 ρ (fun b => Ic b ∨ Im1 b) v y := fun {v y} hr => Rep.mono (fun _ h => .inl h) (fun _ _ => rfl) hr fun i _ => ⟨rfl, fun b _ cur _ hb => ⟨cur, hb, rfl⟩⟩
    exact ⟨h.core.inv.nil, fun i k b hk hi hz => by
        obtain ⟨ents, clk, hbb, hl, hc⟩ := h.core.inv.map i k b hk hi hz
        exact ⟨ents, clk, hbb, hl, fun i m hm => by obtain ⟨v, hv, hr⟩ := hc i m hm; exact ⟨v, hv, rep hr⟩⟩,
      fun i k b hk hi hz => by
        obtain ⟨cur, hbb, hl, hs, hc⟩ := h.core.inv.blk i k b hk hi hz
        exact ⟨cur, hbb, hl, hs, fun i e j c he hcc => by obtain ⟨v, hv, h1, hr⟩ := hc i e j c he hcc; exact ⟨v, hv, h1, rep hr⟩⟩,
      h.core.inv.inj, h.core.inv.live, fun i b hi => dis b (.inl ⟨i, hi⟩), Im2⟩
  have henv0 : EnvRep w1 ρ (fun b => Ic b ∨ Im1 b) E0 a.tmps := fun t y hy => Rep.mono (fun _ h => .inl h) (fun _ _ => rfl) (h.core.env t y hy) fun i _ => ⟨rfl, fun b _ cur _ hb => ⟨cur, hb, rfl⟩⟩
  have hvs2 : IReps w1 (fun b => Ic b ∨ Im1 b) x vs1 := ⟨hvs.1, fun j c y hc hy => (hvs.2 j c y hc hy).mono (fun _ h => .inr h) (fun _ _ => rfl)⟩
  obtain ⟨henv2, hsz2⟩ := setPs_rep (N := C.N) ps.toList x vs1 E0 a.tmps henv0 hvs2 h.core.size
  let mk : LoopState → Fx := fun st => { w0 := w1, X0 := fun b => (∃ id, ρ id = some b) ∨ M.m b ∨ b = l, Im0 := fun b => Ic b ∨ Im1 b, G := fun g M' w => g = E0 C.N ∧ M' = M ∧ C.G g M' w, N := C.N, rd := some (l, { r with state := st }), pin := fun id => if nm0 id then some (ρ id) else none, J0 := fun b => Ic b ∨ Im1 b, R0 := fun id b => ρ id = some b }
  have hgk1 : GOK w1 (fun b => Ic b ∨ Im1 b) := h.gok.mono (fun _ h => .inl h) fun _ _ => rfl
  have HR : ∀ st, Holds (spR S b2 nm0) (mk st) := fun st => by
    refine ⟨H.N, ?_, fun _ _ _ hY => hY.elim, H.mo, fun id b hp => ?_, hb2, H.big, (fun h => by cases h), fun _ _ _ _ => rfl, hgk1, fun b hb => ⟨fun hx => dis b (Or.imp_right (Or.imp_right Or.inl) hx) (hgk1.im hb), Im2 b (hgk1.im hb)⟩, (fun h => by cases h)⟩
    · rintro g M' w w' ⟨h1, h2, h3⟩ hb hs ho ht hout; exact ⟨h1, h2, H.G _ _ _ _ h3 hb hs ho ht hout⟩
    · simp only [mk] at hp
      cases hn : nm0 id with
      | true => exact hn
      | false => simp [hn] at hp
  have hEN : setPs E0 ps.toList x C.N = E0 C.N := setPs_out ps.toList x E0 fun p hp => by rw [← H.N]; exact hps p hp
  have W0 : Wit (mk .ready) (setPs E0 ps.toList x) σ { tmps := (ps.toList.zip vs1).foldl (fun tm (t, v) => tm.setIfInBounds t v) a.tmps, defers := [] } w1 ρ (fun b => Ic b ∨ Im1 b) M := by
    refine ⟨hin2, henv2, hsz2, Ext.refl _ _, fun id b hi => .inl ⟨.inl ⟨id, hi⟩, hi⟩, fun b hb => .inl hb, fun p => ?_, ?_, fun b hb => .inl (h.core.js b hb), fun b hb => ?_, fun l' r' hr => ?_, .nil, fun d hd => (by cases hd), fun b hb => ?_, fun id ob hp => ?_, fun b hb => hb⟩
    · show AV.namesB p (setPs E0 ps.toList x C.N) = false
      rw [hEN]; exact h.core.gh p
    · show setPs E0 ps.toList x C.N = E0 C.N ∧ _
      exact ⟨hEN, rfl, by rw [hEN]; exact h.core.g⟩
    · obtain ⟨h1, h2, h3, _⟩ := h.core.ms b hb
      exact ⟨h1, h2, dis b (.inr (.inl hb)), .inl (.inr (.inl hb))⟩
    · simp only [mk, Option.some.injEq, Prod.mk.injEq] at hr
      obtain ⟨rfl, rfl⟩ := hr
      rw [h.lrec, ← hst]
    · rcases hb with ⟨r', hr'⟩ | hd
      · simp only [mk, Option.some.injEq, Prod.mk.injEq] at hr'
        obtain ⟨rfl, _⟩ := hr'
        exact ⟨h.lρ, dis _ (.inr (.inr (.inl rfl))), h.lM⟩
      · cases hd
    · simp only [mk] at hp
      cases hn : nm0 id with
      | true => simp [hn] at hp; exact hp
      | false => simp [hn] at hp
  refine ⟨_, _, _, _, hyield, roundIn_of_wpIn trivial ?_⟩
  rw [FW_round]
  have hrdl : ∀ st, (mk st).rdl = some l := fun st => rfl
  -- what a round leaves
  have leave : ∀ (E' : Env) (σ' : Store) (a' : Act) (w3 : World) (p : Nat → Bool) (jump : Option Code), (∀ id, nm0 id = true → p id = false) → St (mk .busy) E' σ' a' w3 →
      ((jump = none ∧ I rest (killS p σ')) ∨ (jump = some .ret ∧ Q .ret E0 (killS p σ')) ∨ ∃ i, jump = some (.exit i) ∧ Q (.exit i) E0 (killS p σ')) →
      ∃ v w4, (Instr.endRound l jump).run S.P w3 = .ok v w4 ∧ ∃ b M', Ending.returned v = .returned (.bool b) ∧ (∃ σ ρ Im M r, InLoop C Q I E0 a l ps.size wc.heap.size r0 rest (!b) M' w4 σ ρ Im M r) ∧
        (∀ k, M'.m k → k < w4.heap.size ∧ (M1.m k ∨ w1.heap.size ≤ k)) ∧ (∀ k, M'.j k → Im1 k) ∧ Ext w1 M1.m w4 := by
    rintro E' σ' a' w3 p jump hp ⟨ρ2, I2, M2, hw⟩ hj
    obtain ⟨hg1, rfl, hg3⟩ := hw.g
    have hrec3 : w3.heap[l]? = some (.loop { r with state := .busy }) := hw.rd l _ rfl
    refine ⟨_, _, run_endRound jump hrec3, jump.isNone, ⟨fun b => (∃ id, killR p ρ2 id = some b) ∨ M2.m b ∨ b = l ∨ C.book a b ∨ (I2 b ∧ ¬ Im1 b), fun b => I2 b ∧ Im1 b⟩, rfl, ?_, ?_, fun k hk => hk.2, ?_⟩
    · -- the state anew
      have hl2 : ∀ id, ρ2 id ≠ some l := (hw.bk l (.inl ⟨_, rfl⟩)).1
      have hlI2 : ¬ I2 l := (hw.bk l (.inl ⟨_, rfl⟩)).2.1
      have hoth : ∀ (o : Obj) k, k ≠ l → (w3.putObj l o).heap[k]? = w3.heap[k]? := fun o k hk => World.putObj_heap_other hk
      have old : ∀ b, b < w1.heap.size → (∀ id, ρ id ≠ some b) → ¬ M2.m b → b ≠ l → w3.heap[b]? = w1.heap[b]? := fun b hlt h1 h2 h3 => hw.ext.block b hlt fun hx => by
        rcases hx with ⟨id, hid⟩ | hx | hx
        · exact h1 id hid
        · exact h2 hx
        · exact h3 hx
      have fromρ : ∀ id b, ρ2 id = some b → ρ id = some b ∨ w1.heap.size ≤ b := fun id b hi => by
        rcases hw.rng id b hi with ⟨_, h'⟩ | h'
        · exact .inl h'
        · exact .inr h'
      have book1 : ∀ b, C.book a b → b < w1.heap.size := fun b hb => h.core.bklt hb
      have bookne : ∀ b, C.book a b → b ≠ l := fun b hb e => h.lb (e ▸ hb)
      have bookw : ∀ b, C.book a b → w3.heap[b]? = w1.heap[b]? := fun b hb => old b (book1 b hb) (h.core.bk b hb).1 (h.core.bk b hb).2.2 (bookne b hb)
      have Iold : ∀ b, Ic b → w3.heap[b]? = w1.heap[b]? := fun b hb => old b (h.core.inv.low b hb) (fun id hid => h.core.inv.apart id b hid hb) (fun hm => (h.core.ms b hm).2.2.1 hb) (fun e => h.lI (e ▸ hb))
      have bkI : ∀ b, C.book a b → ¬ I2 b := fun b hb hI => by
        rcases hw.im b hI with h' | h'
        · exact dis b (.inr (.inr (.inr hb))) h'
        · exact absurd (book1 b hb) (Nat.not_lt.2 h')
      have bkρ : ∀ b, C.book a b → ∀ id, ρ2 id ≠ some b := fun b hb id hid => by
        rcases fromρ id b hid with h' | h'
        · exact (h.core.bk b hb).1 id h'
        · exact absurd (book1 b hb) (Nat.not_lt.2 h')
      have pinned : ∀ id, nm0 id = true → ρ2 id = ρ id := fun id hid => hw.pin id (ρ id) (by simp [mk, hid])
      have hN : E' C.N = E0 C.N := hg1
      have hks : (killS p σ') = killS p σ' := rfl
      have C3 : Core C E0 (killS p σ') a w3 (killR p ρ2) I2 M2 := by
        refine ⟨hw.inv.kill p, fun t y hy => ?_, h.core.size, fun id b hi => ?_, fun b hb => ?_, h.core.gh, ?_, fun b hb => hw.js b hb, fun b hb => ?_, fun l' r' hr => (by rw [hrd] at hr; cases hr), h.core.nodup, fun d hd => ?_, fun b hb => ⟨fun id hid => bkρ b hb id (killR_some hid).2, bkI b hb, (h.core.bk b hb).2.2⟩, fun id ob hpn => ?_, fun b hb => hw.j0 b (.inl (h.core.j0 b hb))⟩
        · refine Rep.stay (w := w1) (w' := w3) (fun b hb => hw.j0 b (.inl hb)) Iold (h.core.env t y hy) (hE0 t).1 fun id hid => ?_
          have hn := (hE0 t).2 id hid
          rw [killR_of ρ2 (hp id hn), pinned id hn]
        · rcases fromρ id b (killR_some hi).2 with h' | h'
          · exact h.core.rng id b h'
          · exact .inr (Nat.le_trans hwc (Nat.le_trans h.late h'))
        · rcases hw.im b hb with (h' | h') | h'
          · exact h.core.im b h'
          · rcases hL1 b h' with h'' | h''
            · exact hImc b h''
            · exact .inr (Nat.le_trans hwc h'')
          · exact .inr (Nat.le_trans hwc (Nat.le_trans h.late h'))
        · rw [← hN]; exact hg3
        · obtain ⟨h1, h2, h3, _⟩ := hw.ms b hb
          exact ⟨h1, fun id hid => h2 id (killR_some hid).2, h3, (h.core.ms b hb).2.2.2⟩
        · obtain ⟨D, e, hD, hle⟩ := h.core.df d hd
          exact ⟨D, e, by rw [bookw D (.inr (e ▸ hd))]; exact hD, hle⟩
        · have hS := hnm id (H.pin id ob hpn)
          rw [killR_of ρ2 (hp id hS), pinned id hS]; exact h.core.pin id ob hpn
      have C4 := C3.carry H.G (w' := w3.putObj l (.loop { { r with state := .busy } with state := if jump.isNone then .ready else .done, pending := jump })) (fun k hk => hoth _ k fun e => by
        rcases hk with ⟨id, hid⟩ | hk | hk | hk
        · exact hl2 id (e ▸ (killR_some hid).2)
        · exact hlI2 (e ▸ hk)
        · exact h.lM (e ▸ hk)
        · exact h.lb (e ▸ hk)) (by simp) rfl rfl rfl
      refine ⟨killS p σ', killR p ρ2, I2, M2, _, fun x hx => h.len x (by simp [hx]), ?_, C4, World.putObj_heap_same (Array.getElem?_eq_some_iff.1 hrec3).1, ?_, fun id hid => hl2 id (killR_some hid).2, hlI2, h.lM, h.lb, fun b hb => ?_, fun b hb => ?_, (hw.gok (HR .busy)).mono (fun _ h => h) (fun b hb => hoth _ b (fun e => hlI2 (e ▸ (hw.gok (HR .busy)).im hb))), ?_⟩
      · simpa using Nat.le_trans h.late hw.ext.size
      · rw [hrr]
      · rcases hb with hb | hb | hb | hb
        · exact .inl hb
        · exact .inr (.inl hb)
        · exact .inr (.inr (.inl hb))
        · exact .inr (.inr (.inr (.inl hb)))
      · by_cases hb1 : Im1 b
        · exact .inr ⟨hb, hb1⟩
        · exact .inl (.inr (.inr (.inr (.inr ⟨hb, hb1⟩))))
      · rcases hj with ⟨rfl, hI⟩ | ⟨rfl, hQ⟩ | ⟨i, rfl, hQ⟩
        · exact .inl ⟨rfl, rfl, rfl, hI⟩
        · exact .inr ⟨rfl, rfl, .inl ⟨rfl, hQ⟩⟩
        · exact .inr ⟨rfl, rfl, .inr ⟨i, rfl, hQ⟩⟩
    · intro k hk
      have hsz : (w3.putObj l (.loop { { r with state := .busy } with state := if jump.isNone then .ready else .done, pending := jump })).heap.size = w3.heap.size := by simp
      rw [hsz]
      have covm : ∀ b, ((∃ id, ρ id = some b) ∨ M2.m b ∨ b = l) → M1.m b := fun b hb => h.cov b (by rcases hb with h | h | h; exact .inl h; exact .inr (.inl h); exact .inr (.inr (.inl h)))
      rcases hk with ⟨id, hid⟩ | hk | hk | hk | ⟨hk, hk1⟩
      · have hid := (killR_some hid).2
        refine ⟨hw.inv.lt hid, ?_⟩
        rcases hw.rng id k hid with h' | h'
        · exact .inl (covm k h'.1)
        · exact .inr h'
      · exact ⟨(hw.ms k hk).1, .inl (h.cov k (.inr (.inl hk)))⟩
      · subst hk; exact ⟨(Array.getElem?_eq_some_iff.1 hrec3).1, .inl (h.cov _ (.inr (.inr (.inl rfl))))⟩
      · exact ⟨Nat.lt_of_lt_of_le (h.core.bklt hk) hw.ext.size, .inl (h.cov k (.inr (.inr (.inr hk))))⟩
      · refine ⟨hw.inv.low k hk, ?_⟩
        rcases hw.im k hk with (h' | h') | h'
        · rcases h.covI k h' with h'' | h''
          · exact .inl h''
          · exact absurd (hJ1 k h'') hk1
        · exact absurd h' hk1
        · exact .inr h'
    · have hx : Ext w1 M1.m w3 := hw.ext.mono fun b _ hb => h.cov b (by rcases hb with h | h | h; exact .inl h; exact .inr (.inl h); exact .inr (.inr (.inl h)))
      exact hx.trans (Y := fun b => b = l) ⟨rfl, rfl, rfl, by simp, fun b _ hb => World.putObj_heap_other hb⟩ fun b hb => .inl (by subst hb; exact h.cov _ (.inr (.inr (.inl rfl))))
  have hA := awp_sound (HR .ready) (draw_sound (HR .ready)) (n := n) as _ _ _ hoA (hround x rest σ hinv)
    (Exit.then (fun a₁ w₁ => ∃ w₂, (Instr.beginRound l).run S.P w₁ = .ok () w₂ ∧ body.wpIn (FW (some l)) n S.P (roundPost S.P l fun e w' => ∃ b M', e = .returned (.bool b) ∧ (∃ σ ρ Im M r, InLoop C Q I E0 a l ps.size wc.heap.size r0 rest (!b) M' w' σ ρ Im M r) ∧
      (∀ k, M'.m k → k < w'.heap.size ∧ (M1.m k ∨ w1.heap.size ≤ k)) ∧ (∀ k, M'.j k → Im1 k) ∧ Ext w1 M1.m w') a₁ w₂) (fun _ _ _ => False))
    (fun e E' σ' a' w' hq hs => ?_) _ w1 ⟨_, _, _, W0⟩
  · exact hA
  · cases e with
    | normal =>
      obtain ⟨ρ2, I2, M2, hw⟩ := hs
      have hrec2 : w'.heap[l]? = some (.loop { r with state := .ready }) := hw.rd l _ rfl
      refine ⟨_, run_beginRound hrec2 rfl, ?_⟩
      have hoth : ∀ k, k ≠ l → (w'.putObj l (.loop { { r with state := .ready } with state := .busy })).heap[k]? = w'.heap[k]? := fun k hk => World.putObj_heap_other hk
      have hl2 := hw.bk l (.inl ⟨_, rfl⟩)
      have hoC : Core (mk .ready) E' σ' a' w' ρ2 I2 M2 := hw.core
      -- busy now
      have W1 : Wit (mk .busy) E' σ' a' (w'.putObj l (.loop { r with state := .busy })) ρ2 I2 M2 := by
        have hneq : ∀ k, ((∃ id, ρ2 id = some k) ∨ I2 k ∨ M2.m k ∨ stamp k ∈ a'.defers) → k ≠ l := fun k hk e => by
          subst e
          rcases hk with ⟨id, hid⟩ | hk | hk | hk
          · exact hl2.1 id hid
          · exact hl2.2.1 hk
          · exact hl2.2.2 hk
          · obtain ⟨D, e, hD, _⟩ := hw.df _ hk
            rw [stamp_inj e] at hrec2; rw [hrec2] at hD; cases hD
        refine ⟨hw.inv.carry (fun k hk => World.putObj_heap_other (hneq k (by rcases hk with h | h; exact .inl h; exact .inr (.inl h)))) (by simp),
          fun t y hy => Rep.mono (w := w') (fun _ h => h) (fun b hI => World.putObj_heap_other (hneq b (.inr (.inl hI)))) (hw.env t y hy) fun i _ => ⟨rfl, fun b hi cur e hc => ⟨cur, by rw [World.putObj_heap_other (hneq b (.inl ⟨i, hi⟩))]; exact hc, rfl⟩⟩,
          hw.size, ?_, hw.rng, hw.im, hw.gh, ?_, hw.js, fun b hb => by simpa using hw.ms b hb, fun l' r' hr => ?_, hw.nodup, fun d hd => ?_, fun b hb => ?_, hw.pin, hw.j0⟩
        · exact hw.ext.trans (Y := fun b => b = l) ⟨rfl, rfl, rfl, by simp, fun b _ hb => World.putObj_heap_other hb⟩ fun b hb => .inl (.inr (.inr hb))
        · exact (HR .busy).G _ _ _ _ hw.g (fun k hk => World.putObj_heap_other (hneq k (by rcases hk with h | h; exact .inr (.inr (.inl h)); exact .inr (.inl (hw.js k h))))) (by simp) rfl rfl rfl
        · simp only [mk, Option.some.injEq, Prod.mk.injEq] at hr
          obtain ⟨rfl, rfl⟩ := hr
          exact World.putObj_heap_same (Array.getElem?_eq_some_iff.1 hrec2).1
        · obtain ⟨D, e, hD, hle⟩ := hw.df d hd
          exact ⟨D, e, by rw [World.putObj_heap_other (hneq D (.inr (.inr (.inr (e ▸ hd)))))]; exact hD, hle⟩
        · refine hw.bk b ?_
          rcases hb with ⟨r', hr'⟩ | hd
          · simp only [mk, Option.some.injEq, Prod.mk.injEq] at hr'
            exact .inl ⟨{ r with state := .ready }, by simp only [mk]; rw [hr'.1]⟩
          · exact .inr hd
      have hB := awp_sound (HR .busy) (draw_sound (HR .busy)) (n := n) body _ _ _ hoB hq
        (roundPost S.P l fun e w' => ∃ b M', e = .returned (.bool b) ∧ (∃ σ ρ Im M r, InLoop C Q I E0 a l ps.size wc.heap.size r0 rest (!b) M' w' σ ρ Im M r) ∧
          (∀ k, M'.m k → k < w'.heap.size ∧ (M1.m k ∨ w1.heap.size ≤ k)) ∧ (∀ k, M'.j k → Im1 k) ∧ Ext w1 M1.m w') (fun e E'' σ'' a'' w'' hq' hs' => ?_) _ _ ⟨_, _, _, W1⟩
      · exact hB
      · cases e with
        | normal => obtain ⟨p, hp, hI⟩ := hq'; exact leave E'' σ'' a'' w'' p none hp hs' (.inl ⟨rfl, hI⟩)
        | ret => obtain ⟨p, hp, hI⟩ := hq'; exact leave E'' σ'' a'' w'' p (some .ret) hp hs' (.inr (.inl ⟨rfl, hI⟩))
        | exit i => obtain ⟨p, hp, hI⟩ := hq'; exact leave E'' σ'' a'' w'' p (some (.exit i)) hp hs' (.inr (.inr ⟨i, rfl, hI⟩))
        | goto t => exact hq'.elim
        | panic ch => exact hq'.elim
        | outgrown => exact hq'.elim
    | ret => exact hq.elim
    | exit i => exact hq.elim
    | goto t => exact hq.elim
    | panic ch => exact hq.elim
    | outgrown => exact hq.elim
end Go.Vai
namespace Go.Vai
open Go.RowKit
variable {P : Program} {C : Fx} {w w' : World} {ρ : Nat → Option Nat} {Im : Nat → Prop} {M : Str} {E : Env} {σ : Store} {a : Act}
theorem range_sound {S : Sp} {f : Operand} {ps : Array Tmp} {as body : Code} {Q : Exit → Env → Store → Prop} (hrd : S.rd = false) (hlow : Operand.low S.N f = true) (hoA : codeOK S.P S.N S.bad as = true) (hoB : codeOK S.P S.N S.bad body = true)
    (hps : ∀ p ∈ ps.toList, p < S.N) {g : FuncId} {caps : List AV} (hf : ev E f = .clo g caps) (hhd : headOK caps = true) (q nm0 : Nat → Bool) (b2 : Nat) (hqc : AV.namesL (fun i => !q i) caps = false)
    (hqs : ∀ id k, σ id = some k → q id = true → AV.namesL (fun i => !q i) k.es = false) (hqn : ∀ id, q id = true → nm0 id = false) (hnm : ∀ id, S.pin id = true → nm0 id = true)
    (hb2 : ∀ id, nm0 id = true → id / 16 < b2 ∨ b2 + 100000 ≤ id / 16) (xs : List (List AV)) (hlen : ∀ x ∈ xs, x.length = ps.size) (hs : SOK S.P g caps (only q σ) xs) (I : List (List AV) → Store → Prop) (h0 : I xs (killS q σ))
    (hround : ∀ x rest σ, I (x :: rest) σ → awp (spR S b2 nm0) as (thenQ (awp (spR S b2 nm0) body (rQ nm0 Q (fadeE nm0 E) (I rest))) failQ) (setPs (fadeE nm0 E) ps.toList x) σ)
    (hend : ∀ σ, I [] σ → Q .normal (fadeE nm0 E) σ) : semC S (.rangeFunc f ps as body) Q E σ := by
  intro C H n R hR a w hst
  obtain ⟨ρ, Im, M, hw⟩ := hst
  have hCr : C.rd = none := H.rdn hrd
  have hrdl : C.rdl = none := by unfold Fx.rdl; rw [hCr]; rfl
  have hbook : ∀ (a : Act) b, C.book a b ↔ stamp b ∈ a.defers := book_none hCr
  have hfr := ev_rep hw.env (x := f) (by rw [hw.size, ← H.N]; exact hlow)
  rw [hf] at hfr
  obtain ⟨cys, hfy, hcl, hcr⟩ := hfr.clo_plain hhd
  -- the two blocks that are laid
  refine wpIn_rangeFunc fun fn _ => ?_
  let D := w.heap.size
  let r0 : Loop := { state := .ready, pending := none, fn := fn, tmps := a.tmps, params := ps, assign := as, body := body, defers := D }
  let w1 : World := (w.alloc (.deferred (some []))).alloc (.loop r0)
  let a1 : Act := { a with defers := [stamp D] ++ a.defers }
  have hround' : (FW C.rdl).round = none := by rw [hrdl]; rfl
  have hsz1 : w1.heap.size = D + 2 := by simp [w1, D]
  have hw1 : ∀ k, k < D → w1.heap[k]? = w.heap[k]? := fun k hk => by
    show ((w.alloc (.deferred (some []))).alloc (.loop r0)).heap[k]? = _
    rw [Below.heap_alloc _ _ _ (by simp; omega), Below.heap_alloc _ _ _ hk]
  have hDw : w1.heap[D]? = some (.deferred (some [])) := by
    show ((w.alloc (.deferred (some []))).alloc (.loop r0)).heap[D]? = _
    rw [Below.heap_alloc _ _ _ (by simp [D])]; exact World.alloc_heap_new w _
  have hLw : w1.heap[D + 1]? = some (.loop r0) := by
    have h1 := World.alloc_heap_new (w.alloc (.deferred (some []))) (.loop r0)
    have h2 : (w.alloc (.deferred (some []))).heap.size = D + 1 := by simp [D]
    rw [h2] at h1; exact h1
  have lowI : ∀ b, Im b → b < D := hw.inv.low
  have lowρ : ∀ id b, ρ id = some b → b < D := fun id b h => hw.inv.lt h
  have lowM : ∀ b, M.m b → b < D := fun b h => (hw.ms b h).1
  have lowB : ∀ b, C.book a b → b < D := fun b h => hw.bklt h
  have hext1 : Ext w (fun _ => False) w1 := ⟨rfl, rfl, rfl, by simp [w1]; omega, fun k hk _ => hw1 k hk⟩
  have hq0 : ∀ id, nm0 id = true → q id = false := fun id h => by
    cases hq : q id with
    | false => rfl
    | true => rw [hqn id hq] at h; cases h
  have hEN : fadeE nm0 E C.N = E C.N := fade_nameless hw.gh
  have hbk1 : ∀ b, C.book a1 b ↔ b = D ∨ C.book a b := fun b => by
    rw [hbook, hbook]; simp only [a1, List.cons_append, List.nil_append, List.mem_cons]
    exact ⟨fun h => h.imp_left stamp_inj, fun h => h.imp_left fun e => by rw [e]⟩
  have nD : stamp D ∉ a.defers := fun h => Nat.lt_irrefl D (lowB D ((hbook a D).2 h))
  -- the state in the loop
  have C1 : Core C (fadeE nm0 E) (killS q σ) a1 w1 (killR q ρ) Im M := by
    refine ⟨(hw.inv.kill q).carry (fun k hk => hw1 k (by
        rcases hk with ⟨id, hid⟩ | hk
        · exact lowρ id k (killR_some hid).2
        · exact lowI k hk)) (by omega), fun t y hy => ?_, hw.size, fun id b hi => hw.rng id b (killR_some hi).2, hw.im, fun p => by rw [hEN]; exact hw.gh p, ?_, hw.js, fun b hb => ?_, fun l r hr => (by rw [hCr] at hr; cases hr), ?_, fun d hd => ?_, fun b hb => ?_, fun id ob hp => ?_, hw.j0⟩
    · exact Rep.stay (w := w) (w' := w1) (fun _ h => h) (fun b hb => hw1 b (lowI b hb)) (hw.env t y hy).fade (fade_own nm0 (E t)) fun id hid => killR_of ρ (hq0 id (fade_names hid).1)
    · rw [hEN]
      exact H.G _ _ _ _ hw.g (fun k hk => hw1 k (by rcases hk with hk | hk; exact lowM k hk; exact lowI k (hw.js k hk))) (by omega) rfl rfl rfl
    · obtain ⟨h1, h2, h3, h4⟩ := hw.ms b hb
      exact ⟨by omega, fun id hid => h2 id (killR_some hid).2, h3, h4⟩
    · show (stamp D :: a.defers).Nodup
      exact List.nodup_cons.2 ⟨nD, hw.nodup⟩
    · rcases List.mem_cons.1 (show d ∈ stamp D :: a.defers from hd) with rfl | hd
      · exact ⟨D, rfl, hDw, hw.ext.size⟩
      · obtain ⟨D', e, hD', hle⟩ := hw.df d hd
        exact ⟨D', e, by rw [hw1 D' (lowB D' (.inr (e ▸ hd)))]; exact hD', hle⟩
    · rcases (hbk1 b).1 hb with rfl | hb
      · exact ⟨fun id hid => Nat.lt_irrefl _ (lowρ id _ (killR_some hid).2), fun h => Nat.lt_irrefl _ (lowI _ h), fun h => Nat.lt_irrefl _ (lowM _ h)⟩
      · obtain ⟨h1, h2, h3⟩ := hw.bk b hb
        exact ⟨fun id hid => h1 id (killR_some hid).2, h2, h3⟩
    · rw [killR_of ρ (hq0 id (hnm id (H.pin id ob hp)))]; exact hw.pin id ob hp
  have hE0 : ∀ t, (fadeE nm0 E t).ownB = false ∧ ∀ id, Names (fadeE nm0 E t) id → nm0 id = true := fun t => ⟨fade_own nm0 (E t), fun id h => (fade_names h).1⟩
  have hans := round_sound (C := C) (a := a1) (Im := Im) (Q := Q) H hCr hoA hoB hps hnm hb2 (I := I) hE0 hround (l := D + 1) (r0 := r0) ⟨rfl, rfl, rfl, rfl⟩ (Nat.le_trans hw.ext.size (Nat.le_succ D)) (wc := w1) (by have := hw.ext.size; omega) hw.im (by omega)
    (fun b hb => by rcases (hbk1 b).1 hb with rfl | hb; omega; have := lowB b hb; omega)
  have hstab : SStable fun xs s M' w => ∃ σ ρ Im M r, InLoop C Q I (fadeE nm0 E) a1 (D + 1) ps.size w1.heap.size r0 xs s M' w σ ρ Im M r := by
    rintro xs s g M' v v' ⟨σ', ρ', I', M2, r, h⟩ hb hsz ho ht hout
    have hI : ∀ b, I' b → M'.m b ∨ M'.j b := h.covI
    exact ⟨σ', ρ', I', M2, r, h.len, Nat.le_trans h.late hsz, h.core.carry H.G (fun k hk => hb k (by
      rcases hk with hk | hk | hk | hk
      · exact .inl (h.cov k (.inl hk))
      · exact hI k hk
      · exact .inl (h.cov k (.inr (.inl hk)))
      · exact .inl (h.cov k (.inr (.inr (.inr hk)))))) hsz ho ht hout, by rw [hb _ (.inl (h.cov _ (.inr (.inr (.inl rfl)))))]; exact h.lrec, h.same, h.lρ, h.lI, h.lM, h.lb, h.cov, h.covI, h.gok.mono (fun _ h => h) (fun b hg => hb b (h.covI b (h.gok.im hg))), h.st⟩
  have hinq : Inv w1 (killR (fun i => !q i) ρ) Im (only q σ) := (hw.inv.only hqs).carry (fun k hk => hw1 k (by
    rcases hk with ⟨id, hid⟩ | hk
    · exact lowρ id k (killR_some hid).2
    · exact lowI k hk)) (by omega)
  have hrq0 : Reps w (killR (fun i => !q i) ρ) Im caps cys := Reps.only ⟨hcl, hcr⟩ hqc
  have hrq : Reps w1 (killR (fun i => !q i) ρ) Im caps cys := ⟨hrq0.1, fun j c y hc hy => Rep.mono (w := w) (w' := w1) (fun _ h => h) (fun b hb => hw1 b (lowI b hb)) (hrq0.2 j c y hc hy) fun i _ => ⟨rfl, fun b hi cur e hcc => ⟨cur, by rw [hw1 b (lowρ i b (killR_some hi).2)]; exact hcc, rfl⟩⟩⟩
  let M0 : Str := ⟨fun b => (∃ id, killR q ρ id = some b) ∨ M.m b ∨ b = D + 1 ∨ C.book a1 b, Im⟩
  have hM0 : ∀ b, M0.m b → b < w1.heap.size ∧ (∀ id, killR (fun i => !q i) ρ id ≠ some b) ∧ ¬ Im b := fun b hb => by
    rcases hb with ⟨id, hid⟩ | hb | hb | hb
    · obtain ⟨hp, hid⟩ := killR_some hid
      refine ⟨by have := lowρ id b hid; omega, fun id' hid' => ?_, fun hI => hw.inv.apart id b hid hI⟩
      obtain ⟨hp', hid'⟩ := killR_some hid'
      have := hw.inv.inj id id' b hid hid'
      subst this; simp [hp] at hp'
    · obtain ⟨h1, h2, h3, _⟩ := hw.ms b hb
      exact ⟨by have := lowM b hb; omega, fun id hid => h2 id (killR_some hid).2, h3⟩
    · subst hb
      exact ⟨by omega, fun id hid => by have := lowρ id _ (killR_some hid).2; omega, fun hI => by have := lowI _ hI; omega⟩
    · rcases (hbk1 b).1 hb with rfl | hb
      · exact ⟨by omega, fun id hid => Nat.lt_irrefl _ (lowρ id _ (killR_some hid).2), fun h => Nat.lt_irrefl _ (lowI _ h)⟩
      · obtain ⟨h1, h2, _⟩ := hw.bk b hb
        exact ⟨by have := lowB b hb; omega, fun id hid => h1 id (killR_some hid).2, h2⟩
  have hinit : InLoop C Q I (fadeE nm0 E) a1 (D + 1) ps.size w1.heap.size r0 xs false M0 w1 (killS q σ) (killR q ρ) Im M r0 := by
    refine ⟨hlen, Nat.le_refl _, C1, hLw, rfl, fun id hid => by have := lowρ id _ (killR_some hid).2; omega, fun hI => by have := lowI _ hI; omega, fun hm => by have := lowM _ hm; omega, fun hb => ?_, fun b hb => hb, fun b hb => .inr hb, (hw.gok H).mono (fun _ h => h) (fun b hb => hw1 b (lowI b ((hw.gok H).im hb))), .inl ⟨rfl, rfl, rfl, h0⟩⟩
    rcases (hbk1 _).1 hb with h | h
    · omega
    · have := lowB _ h; omega
  have hcall := hs.2 w1 Im (killR (fun i => !q i) ρ) cys (D + 1) _ M0 hstab hinq ((hw.gok H).mono (fun _ h => h) fun b hb => hw1 b (lowI b ((hw.gok H).im hb))) hrq hM0 (fun b hb => hb) hans ⟨_, _, _, _, _, hinit⟩
  refine ⟨D + 1, [stamp D], w1, { target := .fn (.func g) cys.toArray, args := #[.func (.yield (D + 1)) #[] #[]] }, w1, g, (.func (.yield (D + 1)) #[] #[] :: cys).toArray, w1, ?_, ?_, fun _ _ => trivial, ?_, fun h => by simp [FW] at h, ?_⟩
  · rw [hround']; exact run_enterLoop_outer fn a.tmps ps as body
  · have hc : a.eval (.const (.func (.yield (D + 1)) #[] #[])) = .func (.yield (D + 1)) #[] #[] := rfl
    simp [resolve, hfy, hc, Deferred.ofValue, Sem.run_bind]
  · have e1 : (#[.func (.yield (D + 1)) #[] #[]] ++ cys.toArray : Array Value) = (.func (.yield (D + 1)) #[] #[] :: cys).toArray := by apply Array.toList_inj.1; simp
    show (callFunc g (#[.func (.yield (D + 1)) #[] #[]] ++ cys.toArray)).run S.P w1 = _
    rw [e1]; exact hs.1 _ w1
  · refine calls_FW (hcall.mono ?_)
    rintro e w3 ⟨y, rest, s, M', rfl, hor, ⟨σ', ρ', I', M2, r, h⟩, hx⟩
    have hst : r.state ≠ .busy := by
      rcases h.st with ⟨_, h1, _⟩ | ⟨_, h1, _⟩ <;> rw [h1] <;> decide
    refine ⟨_, _, run_endLoop h.lrec hst, ?_⟩
    have hoth : ∀ k, k ≠ D + 1 → (w3.putObj (D + 1) (.loop { r with state := .exhausted })).heap[k]? = w3.heap[k]? := fun k hk => World.putObj_heap_other hk
    have C4 : Core C (fadeE nm0 E) σ' a1 (w3.putObj (D + 1) (.loop { r with state := .exhausted })) ρ' I' M2 := h.core.carry H.G (fun k hk => hoth k fun e => by
      rcases hk with ⟨id, hid⟩ | hk | hk | hk
      · exact h.lρ id (e ▸ hid)
      · exact h.lI (e ▸ hk)
      · exact h.lM (e ▸ hk)
      · exact h.lb (e ▸ hk)) (by simp) rfl rfl rfl
    have hfin : Ext C.w0 C.X0 (w3.putObj (D + 1) (.loop { r with state := .exhausted })) := by
      refine (hw.ext.trans hext1 fun b hb => hb.elim).trans (X := C.X0) (Y := fun b => C.X0 b ∨ C.w0.heap.size ≤ b) ?_ fun b hb => hb
      refine (hx.mono fun b hlt hb => ?_).trans (Y := fun b => b = D + 1) ⟨rfl, rfl, rfl, by simp, fun b _ hb => hoth b hb⟩ fun b hb => .inl (.inr (by subst hb; have := hw.ext.size; omega))
      rcases hb with ⟨id, hid⟩ | ⟨id, hid⟩ | hb | hb | hb
      · exact (hw.rng id b (killR_some hid).2).imp_left And.left
      · exact (hw.rng id b (killR_some hid).2).imp_left And.left
      · exact (hw.ms b hb).2.2.2
      · subst hb; have := hw.ext.size; exact .inr (by omega)
      · rcases (hbk1 b).1 hb with rfl | hb
        · exact .inr hw.ext.size
        · obtain ⟨D', e, _, hle⟩ := hw.df _ ((hbook a b).1 hb)
          rw [stamp_inj e]; exact .inr hle
    have st : St C (fadeE nm0 E) σ' a1 (w3.putObj (D + 1) (.loop { r with state := .exhausted })) := ⟨ρ', I', M2, C4.wit hfin⟩
    split
    · rename_i hpn
      rcases h.st with ⟨hs0, _, hp, hI⟩ | ⟨_, _, ⟨hp, hQ⟩ | ⟨i, hp, hQ⟩⟩
      · have hr : rest = [] := hor.resolve_right (by rw [hs0]; simp)
        subst hr
        exact hR .normal _ _ _ _ (hend σ' hI) st
      · rw [hpn] at hp; cases hp
      · rw [hpn] at hp; cases hp
    · rename_i c hpn
      rcases h.st with ⟨hs0, _, hp, hI⟩ | ⟨_, _, ⟨hp, hQ⟩ | ⟨i, hp, hQ⟩⟩
      · rw [hpn] at hp; cases hp
      · rw [hpn] at hp; cases hp; rw [hrdl]; exact wpIn_ret (hR .ret _ _ _ _ hQ st)
      · rw [hpn] at hp; cases hp; rw [hrdl]; exact wpIn_exit (hR (.exit i) _ _ _ _ hQ st)
end Go.Vai
namespace Go.Vai
open Go.RowKit
variable {P : Program} {ops : Array Oper}
def waitsQ (ops : Array Oper) : Nat → Nat → Nat → Bool
  | 0, _, _ => false
  | n + 1, j, i => match ops[j]? with
    | some o => (o.after.any fun e => Region.binds .any e && e.on == i) || o.after.any fun e => Region.binds .any e && Nat.blt i e.on && waitsQ ops n e.on i
    | none => false
theorem waitsQ_le : ∀ (n j i : Nat), waitsQ ops n j i = true → waits ops n j i = true
  | 0, _, _, h => by simp [waitsQ] at h
  | n + 1, j, i, h => by
    simp only [waitsQ] at h
    simp only [waits]
    split at h
    · rename_i o ho
      simp only [ho]
      simp only [Bool.or_eq_true, ← Array.any_toList] at h
      rw [← Array.any_toList]
      rcases h with h | h
      · obtain ⟨e, he, hb⟩ := List.any_eq_true.1 h
        simp only [Bool.and_eq_true] at hb
        exact List.any_eq_true.2 ⟨e, he, by simp [hb.1, hb.2]⟩
      · obtain ⟨e, he, hb⟩ := List.any_eq_true.1 h
        simp only [Bool.and_eq_true] at hb
        exact List.any_eq_true.2 ⟨e, he, by simp [hb.1.1, waitsQ_le n e.on i hb.2]⟩
    · cases h
def pairQ (P : Program) (ops : Array Oper) (i : Nat) (oi : Oper) (j : Nat) (oj : Oper) : Bool :=
  ((oi.apart ops oj && (Nat.ble (cls P oi.op oi.type) 2 && Nat.ble (cls P oj.op oj.type) 2 || freeO P oi && stoO oj || stoO oi && freeO P oj)) || waitsQ ops ops.size j i) && (!isNm P oi || !isNm P oj || (oi.dst.getD 99999 != oj.dst.getD 99999))
def rowQ (P : Program) (ops : Array Oper) (i : Nat) (oi : Oper) : Nat → List Oper → Bool
  | _, [] => true
  | j, oj :: l => pairQ P ops i oi j oj && rowQ P ops i oi (j + 1) l
def selfQ (i : Nat) (oi : Oper) : Bool := oi.after.all (fun e => !Region.binds .any e || Nat.blt e.on i) && (match oi.guard with | some (g, _) => Nat.blt g i | none => true)
def allQ (P : Program) (ops : Array Oper) : Nat → List Oper → Bool
  | _, [] => true
  | i, oi :: l => selfQ i oi && rowQ P ops i oi (i + 1) l && allQ P ops (i + 1) l
theorem rowQ_at {i : Nat} {oi : Oper} : ∀ (l : List Oper) (j : Nat), rowQ P ops i oi j l = true → ∀ (k : Nat) (o : Oper), l[k]? = some o → pairQ P ops i oi (j + k) o = true
  | [], _, _, k, o, h => by simp at h
  | oj :: l, j, h, k, o, hk => by
    simp only [rowQ, Bool.and_eq_true] at h
    cases k with
    | zero => simp at hk; subst hk; exact h.1
    | succ k =>
      have := rowQ_at l (j + 1) h.2 k o (by simpa using hk)
      rw [show j + (k + 1) = j + 1 + k from by omega]; exact this
theorem allQ_at : ∀ (l : List Oper) (i : Nat), allQ P ops i l = true → ∀ (a : Nat) (oa : Oper), l[a]? = some oa → selfQ (i + a) oa = true ∧ ∀ (b : Nat) (ob : Oper), a < b → l[b]? = some ob → pairQ P ops (i + a) oa (i + b) ob = true
  | [], _, _, a, oa, h => by simp at h
  | o :: l, i, h, a, oa, ha => by
    simp only [allQ, Bool.and_eq_true] at h
    cases a with
    | zero =>
      simp at ha; subst ha
      refine ⟨h.1.1, fun b ob hb hob => ?_⟩
      cases b with
      | zero => omega
      | succ b =>
        have := rowQ_at l (i + 1) h.1.2 b ob (by simpa using hob)
        rw [show i + (b + 1) = i + 1 + b from by omega]; exact this
    | succ a =>
      obtain ⟨h1, h2⟩ := allQ_at l (i + 1) h.2 a oa (by simpa using ha)
      rw [show i + (a + 1) = i + 1 + a from by omega]
      refine ⟨h1, fun b ob hb hob => ?_⟩
      cases b with
      | zero => omega
      | succ b =>
        have := h2 b ob (by omega) (by simpa using hob)
        rw [show i + (b + 1) = i + 1 + b from by omega]; exact this
theorem drawOK_of (h : allQ P ops 0 ops.toList = true) : drawOK P ops = true := by
  unfold drawOK
  refine List.all_eq_true.2 fun i hi => ?_
  have hi := List.mem_range.1 hi
  rw [Array.getElem?_eq_getElem hi]
  have hi' : ops.toList[i]? = some ops[i] := by rw [Array.getElem?_toList, Array.getElem?_eq_getElem hi]
  obtain ⟨h1, h2⟩ := allQ_at ops.toList 0 h i ops[i] hi'
  rw [Nat.zero_add] at h1 h2
  simp only [selfQ, Bool.and_eq_true] at h1
  have hlt : ∀ a b, Nat.blt a b = true ↔ a < b := fun a b => by simp [Nat.blt]; omega
  simp only [Bool.and_eq_true]
  refine ⟨⟨?_, ?_⟩, List.all_eq_true.2 fun j hj => ?_⟩
  · have := h1.1
    rw [← Array.all_toList] at this ⊢
    refine List.all_eq_true.2 fun e he => ?_
    have := List.all_eq_true.1 this e he
    simp only [Bool.or_eq_true, hlt, decide_eq_true_eq] at this ⊢; exact this
  · have := h1.2
    split at this
    · rename_i hg; rw [hg]; simp only [hlt] at this; simpa using this
    · rename_i hg; rw [hg]
  · have hj := List.mem_range.1 hj
    by_cases hji : j ≤ i
    · simp [hji]
    · rw [Array.getElem?_eq_getElem hj]
      have hj' : ops.toList[j]? = some ops[j] := by rw [Array.getElem?_toList, Array.getElem?_eq_getElem hj]
      have := h2 j ops[j] (by omega) hj'
      rw [Nat.zero_add] at this
      simp only [pairQ, Bool.and_eq_true] at this
      simp only [Bool.or_eq_true, Bool.and_eq_true]
      refine .inr ⟨?_, by simpa using this.2⟩
      rcases this.1 with hh
      simp only [Bool.or_eq_true, Bool.and_eq_true] at hh
      rcases hh with hh | hh
      · refine .inr ⟨hh.1, ?_⟩
        rcases hh.2 with (hh | hh) | hh
        · exact .inl (.inl ⟨by simpa using hh.1, by simpa using hh.2⟩)
        · exact .inl (.inr hh)
        · exact .inr hh
      · exact .inl (waitsQ_le _ _ _ hh)
def codeQ (P : Program) (N : Nat) (bad : Nat → Bool) : Code → Bool
  | .skip => true
  | .label _ => true
  | .seq a b => codeQ P N bad a && codeQ P N bad b
  | .region id ops draw => (bad id || ops.toList.all (Oper.fits P N)) && (!draw || bad id || allQ P ops 0 ops.toList)
  | .cond c x y => Operand.low N c && codeQ P N bad x && codeQ P N bad y
  | .block _ c => codeQ P N bad c
  | .scope c => codeQ P N bad c
  | .loop c => codeQ P N bad c
  | .exit _ => true
  | .ret => true
  | .rangeFunc _ _ _ _ => true
  | .refuse _ => true
  | _ => false
theorem codeOK_of {N : Nat} {bad : Nat → Bool} : ∀ (c : Code), codeQ P N bad c = true → codeOK P N bad c = true
  | .skip, _ => rfl
  | .label _, _ => rfl
  | .seq a b, h => by
    simp only [codeQ, Bool.and_eq_true] at h
    simp only [codeOK, Bool.and_eq_true]; exact ⟨codeOK_of a h.1, codeOK_of b h.2⟩
  | .region _ ops draw, h => by
    simp only [codeQ, Bool.and_eq_true, Bool.or_eq_true] at h
    simp only [codeOK, Bool.and_eq_true, Bool.or_eq_true]
    exact ⟨h.1, h.2.imp_right drawOK_of⟩
  | .cond c x y, h => by
    simp only [codeQ, Bool.and_eq_true] at h
    simp only [codeOK, Bool.and_eq_true]; exact ⟨⟨h.1.1, codeOK_of x h.1.2⟩, codeOK_of y h.2⟩
  | .block _ c, h => by simp only [codeQ] at h; simp only [codeOK]; exact codeOK_of c h
  | .scope c, h => by simp only [codeQ] at h; simp only [codeOK]; exact codeOK_of c h
  | .loop c, h => by simp only [codeQ] at h; simp only [codeOK]; exact codeOK_of c h
  | .exit _, _ => rfl
  | .ret, _ => rfl
  | .rangeFunc _ _ _ _, _ => rfl
  | .refuse _, _ => rfl
def fnQ (P : Program) (fn : Func) (c : Code) : Bool :=
  codeQ P fn.ntmps noBad c && fn.results.toList.all (ResultVar.low fn.ntmps) && !(fn.name == "runtime.NumGoroutine") && Nat.ble fn.ntmps 99999
theorem fnOK_of {fn : Func} {c : Code} (h : fnQ P fn c = true) : fnOK P fn c = true := by
  simp only [fnQ, Bool.and_eq_true] at h
  simp only [fnOK, Bool.and_eq_true]
  exact ⟨⟨⟨codeOK_of c h.1.1.1, h.1.1.2⟩, h.1.2⟩, by simpa using h.2⟩
end Go.Vai
namespace Go.Vai
open Go.RowKit
def putK (dst : Option Nat) (K : Env → Store → Prop) (E : Env) (σ : Store) (v : AV) : Prop := K (updO E dst v) σ
def need (A K : Prop) : Prop := A ∧ K
def needV (A : Prop) (K : AV → Prop) (v : AV) : Prop := A ∧ K v
def needS (A : Prop) (K : Env → Store → Prop) (E : Env) (σ : Store) : Prop := A ∧ K E σ
def optV (o : Option AV) (K : AV → Prop) : Prop := match o with | some r => K r | none => False
def optPt (A : Prop) (o : Option AV) (K : AV → Prop) : Prop := match o with | some r => needV A K (.pt r 0) | none => False
def optU (A : Prop) (o : Option UInt8) (K : AV → Prop) : Prop := match o with | some c => needV A K (.v (.int .u8 c.toNat)) | none => False
def branch (c : Prop) (X : Env → Store → Prop) (E : Env) (Y : Env → Store → Prop) (E' : Env) (σ : Store) : Prop := (c → X E σ) ∧ (¬ c → Y E' σ)
def eqlC (op : BinOp) (o : Option Bool) (K : AV → Prop) : Prop := match op, o with
  | .eql, some b => K (.v (.bool b))
  | .neq, some b => K (.v (.bool (!b)))
  | _, _ => False
def aggC (op : BinOp) (q : Option (List Nat)) (cs ds : List AV) (K : AV → Prop) : Prop := match q with
  | some ks => eqlC op (eqK ks cs ds) K
  | none => False
def intC (op : BinOp) (k : IntKind) (m : Int) (k' : IntKind) (n : Int) (K : AV → Prop) : Prop := match op with
  | .shl => needV (0 ≤ n) K (.v (.int k (k.wrap (m * 2 ^ (min n.toNat k.bits)))))
  | .shr => needV (0 ≤ n) K (.v (.int k (m.fdiv (2 ^ (min n.toNat k.bits)))))
  | .add => needV (k = k') K (.v (.int k (k.wrap (m + n))))
  | .sub => needV (k = k') K (.v (.int k (k.wrap (m - n))))
  | .mul => needV (k = k') K (.v (.int k (k.wrap (m * n))))
  | .quo => needV (k = k' ∧ n ≠ 0) K (.v (.int k (k.wrap (m.tdiv n))))
  | .rem => needV (k = k' ∧ n ≠ 0) K (.v (.int k (m.tmod n)))
  | .eql => needV (k = k') K (.v (.bool (m == n)))
  | .neq => needV (k = k') K (.v (.bool (m != n)))
  | .lss => needV (k = k') K (.v (.bool (decide (m < n))))
  | .leq => needV (k = k') K (.v (.bool (decide (m ≤ n))))
  | .gtr => needV (k = k') K (.v (.bool (decide (n < m))))
  | .geq => needV (k = k') K (.v (.bool (decide (n ≤ m))))
  | .and => needV (k = k') K (.v (.int k (bitsI .and k m n)))
  | .or => needV (k = k') K (.v (.int k (bitsI .or k m n)))
  | .xor => needV (k = k') K (.v (.int k (bitsI .xor k m n)))
  | .andNot => needV (k = k') K (.v (.int k (bitsI .andNot k m n)))
def strC (op : BinOp) (a b : ByteArray) (K : AV → Prop) : Prop := match op with
  | .add => needV (a.size + b.size ≤ 9223372036854775807) K (.v (.string (a ++ b)))
  | .eql => K (.v (.bool (a.toList == b.toList)))
  | .neq => K (.v (.bool (!(a.toList == b.toList))))
  | .lss => K (.v (.bool (Op.bytesLess a.toList b.toList)))
  | .leq => K (.v (.bool (Op.bytesLess a.toList b.toList || a.toList == b.toList)))
  | .gtr => K (.v (.bool (!(Op.bytesLess a.toList b.toList || a.toList == b.toList))))
  | .geq => K (.v (.bool (!Op.bytesLess a.toList b.toList)))
  | _ => False
def nilC2 (op : BinOp) (u : AV) (q : Option TypeId) (K : AV → Prop) : Prop := match op with
  | .eql => needV (u.full = true ∧ q.isSome = true) K (.v (.bool false))
  | .neq => needV (u.full = true ∧ q.isSome = true) K (.v (.bool true))
  | _ => False
def binC (P : Program) (op : BinOp) (t : TypeId) (a b : AV) (K : AV → Prop) : Prop :=
  match a, b with
  | .v (.int k m), .v (.int k' n) => intC op k m k' n K
  | .v (.string a), .v (.string b) => strC op a b K
  | .v (.bool a), .v (.bool b) => match op with
    | .eql => needV (tkind P t = some 1) K (.v (.bool (a == b)))
    | .neq => needV (tkind P t = some 1) K (.v (.bool (!(a == b))))
    | _ => False
  | .agg cs, .agg ds => aggC op (teq P t) cs ds K
  | u, .v (.slice none 0 0) => nilC2 op u (tel P t) K
  | _, _ => False
theorem intC_of {op : BinOp} {k k' : IntKind} {m n : Int} {K : AV → Prop} (h : intC op k m k' n K) : ∃ r, binI op k m k' n r ∧ K r := by
  cases op <;> simp only [intC, needV] at h <;> simp only [binI]
  all_goals first
    | exact ⟨_, ⟨h.1, rfl⟩, h.2⟩
    | exact ⟨_, ⟨h.1.1, h.1.2, rfl⟩, h.2⟩
theorem strC_of {op : BinOp} {a b : ByteArray} {K : AV → Prop} (h : strC op a b K) : ∃ r, binS op a b r ∧ K r := by
  cases op <;> simp only [strC, needV] at h <;> simp only [binS]
  all_goals first
    | exact ⟨_, ⟨h.1, rfl⟩, h.2⟩
    | exact ⟨_, rfl, h⟩
theorem binC_of {P : Program} {op : BinOp} {t : TypeId} {x y : Operand} {t' : TypeId} {E : Env} {σ : Store} {K : AV → Prop} (h : binC P op t (ev E x) (ev E y) K) : ∃ r, pureV P (.binOp op t x y t') E σ r ∧ K r := by
  simp only [pureV]
  unfold binC at h
  generalize ev E x = u at h
  generalize ev E y = v at h
  split at h
  · exact intC_of h
  · exact strC_of h
  · split at h
    · exact ⟨_, ⟨h.1, .inl ⟨rfl, rfl⟩⟩, h.2⟩
    · exact ⟨_, ⟨h.1, .inr ⟨rfl, rfl⟩⟩, h.2⟩
    · exact h.elim
  · unfold aggC at h
    split at h
    · rename_i ks hk
      unfold eqlC at h
      split at h
      · rename_i b hb; exact ⟨_, ⟨ks, hk, b, hb, .inl ⟨rfl, rfl⟩⟩, h⟩
      · rename_i b hb; exact ⟨_, ⟨ks, hk, b, hb, .inr ⟨rfl, rfl⟩⟩, h⟩
      · exact h.elim
    · exact h.elim
  · unfold nilC2 at h
    split at h
    · obtain ⟨⟨hf, ht⟩, hk⟩ := h
      refine ⟨.v (.bool false), ?_, hk⟩
      revert hf; unfold AV.full; split
      · intro hf; exact ⟨hf, ht, .inl ⟨rfl, rfl⟩⟩
      · intro hf; exact ⟨hf, ht, .inl ⟨rfl, rfl⟩⟩
      · intro hf; cases hf
    · obtain ⟨⟨hf, ht⟩, hk⟩ := h
      refine ⟨.v (.bool true), ?_, hk⟩
      revert hf; unfold AV.full; split
      · intro hf; exact ⟨hf, ht, .inr ⟨rfl, rfl⟩⟩
      · intro hf; exact ⟨hf, ht, .inr ⟨rfl, rfl⟩⟩
      · intro hf; cases hf
    · exact h.elim
  · exact h.elim
def partA (q : Option Bool) (s : Nat) (cs : List AV) (off : Nat) (K : AV → Prop) : Prop := match q with
  | some true => needV (0 < s ∧ off + s ≤ cs.length) K (.agg ((cs.drop off).take s))
  | some false => optV cs[off]? K
  | none => False
def partC (P : Program) (t : TypeId) (cs : List AV) (off : Nat) (K : AV → Prop) : Prop := partA (tagg P t) (tsz P t) cs off K
theorem partC_of {P : Program} {t : TypeId} {cs : List AV} {off : Nat} {K : AV → Prop} (h : partC P t cs off K) : ∃ r, partOf P t cs off r ∧ K r := by
  unfold partC partA at h
  unfold partOf
  split at h
  · rename_i ht; rw [ht]; exact ⟨_, ⟨h.1.1, h.1.2, rfl⟩, h.2⟩
  · rename_i ht; rw [ht]
    unfold optV at h
    split at h
    · rename_i r hr; exact ⟨r, hr, h⟩
    · exact h.elim
  · exact h.elim
def loadE (P : Program) (t : TypeId) (o : Option AV) (j : Nat) (K : AV → Prop) : Prop := match o with
  | some e => partC P t e.cells j K
  | none => False
def loadB (P : Program) (t : TypeId) (o : Option Blk) (sz i j : Nat) (K : AV → Prop) : Prop := match o with
  | some k => need (k.sz = sz) (loadE P t k.es[i]? j K)
  | none => False
def loadC (P : Program) (σ : Store) (t : TypeId) (a : AV) (K : AV → Prop) : Prop := match a with
  | .pt e j => partC P t e.cells j K
  | .ptr id sz i j => loadB P t (σ id) sz i j K
  | _ => False
theorem loadC_cells {P : Program} {σ : Store} {t : TypeId} {a : AV} {K : AV → Prop} (h : loadC P σ t a K) : ∃ r, (cellsAt σ a fun cs j => partOf P t cs j r) ∧ K r := by
  unfold loadC at h
  unfold cellsAt
  split at h
  · exact partC_of h
  · unfold loadB at h
    split at h
    · rename_i k hk
      obtain ⟨hsz, h⟩ := h
      unfold loadE at h
      split at h
      · rename_i e hee
        obtain ⟨r, hp, hK⟩ := partC_of h
        exact ⟨r, ⟨k, hk, hsz, e, hee, hp⟩, hK⟩
      · exact h.elim
    · exact h.elim
  · exact h.elim
def nilchkC (a : AV) (K : AV → Prop) : Prop := match a with
  | .pt e j => K (.pt e j)
  | .ptr id sz i j => K (.ptr id sz i j)
  | .clo g cs => K (.clo g cs)
  | _ => False
def pickC (c a b : AV) (K : AV → Prop) : Prop := match c with
  | .v (.bool c) => K (if c then a else b)
  | _ => False
def tzA (P : Program) (t : TypeId) : Option AV := (tz P t).map ofC
def fillK (o : Option (List AV)) (K : AV → Prop) : Prop := match o with | some cs => K (.agg cs) | none => False
def placeF (P : Program) (fs : List (Nat × TypeId)) (i : Nat) : Option (Nat × Nat) := (fs[i]?).map fun f => (f.1, tsz P f.2)
def placeE (s i : Nat) : Option (Nat × Nat) := some (i * s, s)
def buildB (P : Program) (z : AV) (q : Option (List (Nat × TypeId))) (r : Option (Nat × TypeId)) (ps : List (Nat × AV)) (K : AV → Prop) : Prop := match q with
  | some fs => need (z.ok = true ∧ (fs.all fun f => decide (0 < tsz P f.2)) = true) (fillK (fillA (placeF P fs) z.cells ps) K)
  | none => match r with
    | some (_, e) => need (z.ok = true ∧ 0 < tsz P e) (fillK (fillA (placeE (tsz P e)) z.cells ps) K)
    | none => False
def buildC (P : Program) (z : Option AV) (q : Option (List (Nat × TypeId))) (r : Option (Nat × TypeId)) (ps : List (Nat × AV)) (K : AV → Prop) : Prop := match z with
  | some z => buildB P z q r ps K
  | none => False
theorem buildC_of {P : Program} {t : TypeId} {parts : Array (Nat × Operand)} {E : Env} {σ : Store} {K : AV → Prop} (h : buildC P (tzA P t) (tfld P t) (tarr P t) (parts.toList.map fun p => (p.1, ev E p.2)) K) :
    ∃ r, pureV P (.build t parts) E σ r ∧ K r := by
  unfold buildC at h
  split at h
  · rename_i z hz
    unfold tzA at hz
    obtain ⟨z0, hz0, rfl⟩ := Option.map_eq_some_iff.1 hz
    unfold buildB at h
    split at h
    · rename_i fs hfs
      obtain ⟨⟨h1, h2⟩, h⟩ := h
      unfold fillK at h
      split at h
      · rename_i cs hcs; exact ⟨.agg cs, ⟨z0, hz0, h1, .inl ⟨fs, hfs, h2, cs, hcs, rfl⟩⟩, h⟩
      · exact h.elim
    · split at h
      · rename_i m e hme
        obtain ⟨⟨h1, h2⟩, h⟩ := h
        unfold fillK at h
        split at h
        · rename_i cs hcs; exact ⟨.agg cs, ⟨z0, hz0, h1, .inr ⟨m, e, hme, h2, cs, hcs, rfl⟩⟩, h⟩
        · exact h.elim
      · exact h.elim
  · exact h.elim
def unC (op : UnOp) (a : AV) (K : AV → Prop) : Prop := match op, a with
  | .not, .v (.bool b) => K (.v (.bool (!b)))
  | .neg, .v (.int k n) => K (.v (.int k (k.wrap (0 - n))))
  | .xor, .v (.int k n) => K (.v (.int k (bitsI .xor k (if k.signed then -1 else k.max) n)))
  | _, _ => False
def tund (P : Program) (t : TypeId) : Bool := (P.underlying t).isSome
def convC (u : Bool) (q : Option IntKind) (a : AV) (K : AV → Prop) : Prop := match q, a with
  | some k, .v (.int _ n) => needV (u = true) K (.v (.int k (k.wrap n)))
  | _, _ => False
def fldB (P : Program) (o : Option (Nat × TypeId)) (a : AV) (K : AV → Prop) : Prop := match o, a with
  | some (off, t), .pt e j => needV (0 < tsz P t) K (.pt e (j + off))
  | some (off, t), .ptr id sz i j => needV (0 < tsz P t) K (.ptr id sz i (j + off))
  | some (off, t), .agg cs => partC P t cs off K
  | _, _ => False
def fldC (P : Program) (q : Option (List (Nat × TypeId))) (f : Nat) (a : AV) (K : AV → Prop) : Prop := match q with
  | some fs => fldB P fs[f]? a K
  | none => False
def idxP (P : Program) (q : Option TypeId) (r : Option (Nat × TypeId)) (x : AV) (n : Int) (K : AV → Prop) : Prop := match q with
  | some e => match x with
    | .sl sz es => optPt (0 < sz ∧ tsz P e = sz ∧ 0 ≤ n) es[n.toNat]? K
    | .own id sz o l => needV (0 < sz ∧ tsz P e = sz ∧ 0 ≤ n ∧ n < (l : Int)) K (.ptr id sz (o + n.toNat) 0)
    | _ => False
  | none => match r, x with
    | some (m, e), .pt c j => needV (0 < tsz P e ∧ 0 ≤ n ∧ n < (m : Int)) K (.pt c (j + n.toNat * tsz P e))
    | some (m, e), .ptr id sz o j => needV (0 < tsz P e ∧ 0 ≤ n ∧ n < (m : Int)) K (.ptr id sz o (j + n.toNat * tsz P e))
    | _, _ => False
def idxAddrC (P : Program) (t : TypeId) (x i : AV) (K : AV → Prop) : Prop := match i with
  | .v (.int _ n) => idxP P (tel P t) (tarr P t) x n K
  | _ => False
theorem idxAddrC_of {P : Program} {t : TypeId} {x i : Operand} {E : Env} {σ : Store} {K : AV → Prop} (h : idxAddrC P t (ev E x) (ev E i) K) : ∃ r, pureV P (.indexAddr t x i) E σ r ∧ K r := by
  unfold idxAddrC at h
  simp only [pureV]
  generalize ev E x = u at h
  generalize ev E i = v at h
  split at h
  · rename_i k n
    unfold idxP at h
    split at h
    · rename_i e he
      split at h
      · rename_i sz es
        unfold optPt at h
        split at h
        · rename_i c hc
          obtain ⟨⟨h1, h2, h3⟩, h⟩ := h
          exact ⟨_, .inl ⟨e, he, h1, h2, h3, c, hc, rfl⟩, h⟩
        · exact h.elim
      · obtain ⟨⟨h1, h2, h3, h4⟩, h⟩ := h
        exact ⟨_, .inl ⟨e, he, h1, h2, h3, h4, rfl⟩, h⟩
      · exact h.elim
    · split at h
      · rename_i m e c j he
        obtain ⟨⟨h1, h3, h4⟩, h⟩ := h
        exact ⟨_, .inr ⟨m, e, he, h1, h3, h4, rfl⟩, h⟩
      · rename_i m e id sz o j he
        obtain ⟨⟨h1, h3, h4⟩, h⟩ := h
        exact ⟨_, .inr ⟨m, e, he, h1, h3, h4, rfl⟩, h⟩
      · exact h.elim
  · exact h.elim
def idxG (P : Program) (r : Option (Nat × TypeId)) (cs : List AV) (n : Int) (K : AV → Prop) : Prop := match r with
  | some (m, e) => need (0 < tsz P e ∧ 0 ≤ n ∧ n < (m : Int)) (partC P e cs (n.toNat * tsz P e) K)
  | none => False
def idxC (P : Program) (t : TypeId) (x i : AV) (K : AV → Prop) : Prop := match i, x with
  | .v (.int _ n), .v (.string s) => optU (tstr P t = true ∧ 0 ≤ n) s[n.toNat]? K
  | .v (.int _ n), .agg cs => idxG P (tarr P t) cs n K
  | _, _ => False
theorem idxC_of {P : Program} {t : TypeId} {x i : Operand} {E : Env} {σ : Store} {K : AV → Prop} (h : idxC P t (ev E x) (ev E i) K) : ∃ r, pureV P (.index t x i) E σ r ∧ K r := by
  unfold idxC at h
  simp only [pureV]
  generalize ev E x = u at h
  generalize ev E i = v at h
  split at h
  · rename_i k n s
    unfold optU at h
    split at h
    · rename_i c hc; exact ⟨_, ⟨h.1.1, h.1.2, c, hc, rfl⟩, h.2⟩
    · exact h.elim
  · rename_i k n cs
    unfold idxG at h
    split at h
    · rename_i m e he
      obtain ⟨⟨h1, h3, h4⟩, h⟩ := h
      obtain ⟨r, hp, hK⟩ := partC_of h
      exact ⟨r, ⟨m, e, he, h1, h3, h4, hp⟩, hK⟩
    · exact h.elim
  · exact h.elim
def boundA (E : Env) (x : Option Operand) (d : Nat) : AV := match x with
  | none => .v (.int .i64 d)
  | some y => ev E y
theorem boundA_of {E : Env} {x : Option Operand} {d : Nat} {k : IntKind} {n : Int} (h : boundA E x d = .v (.int k n)) (h0 : 0 ≤ n) {K : Nat → Prop} (hK : K n.toNat) : bound E x d K := by
  unfold boundA at h
  unfold bound
  split at h
  · cases h; simpa using hK
  · simp only [h]; exact ⟨h0, hK⟩
def cutE (P : Program) (q : Option TypeId) (u : Bool) (x lo hi : AV) (K : AV → Prop) : Prop := match x, lo, hi with
  | .sl sz es, .v (.int _ l), .v (.int _ h) => match q with
    | some e => needV (0 < sz ∧ tsz P e = sz ∧ 0 ≤ l ∧ l ≤ h ∧ h ≤ (es.length : Int)) K (.sl sz ((es.drop l.toNat).take (h.toNat - l.toNat)))
    | none => False
  | .own id sz o n, .v (.int _ l), .v (.int _ h) => match q with
    | some e => needV (0 < sz ∧ tsz P e = sz ∧ 0 ≤ l ∧ l ≤ h ∧ h ≤ (n : Int)) K (.own id sz (o + l.toNat) (h.toNat - l.toNat))
    | none => False
  | .v (.string s), .v (.int _ l), .v (.int _ h) => needV (u = true ∧ 0 ≤ l ∧ l ≤ h ∧ h ≤ (s.size : Int)) K (.v (.string (s.extract l.toNat h.toNat)))
  | _, _, _ => False
def lenN (x : AV) : Nat := match x with
  | .sl _ es => es.length
  | .own _ _ _ n => n
  | .v (.string s) => s.size
  | _ => 0
theorem cutE_of {P : Program} {t : TypeId} {E : Env} {σ : Store} {x : Operand} {lo hi : Option Operand} {K : AV → Prop} (h : cutE P (tel P t) (tstr P t) (ev E x) (boundA E lo 0) (boundA E hi (lenN (ev E x))) K) :
    ∃ r, pureV P (.slice t x lo hi none) E σ r ∧ K r := by
  unfold cutE at h
  simp only [pureV]
  split at h
  · rename_i sz es k l k' n hx hl hh
    split at h
    · rename_i e he
      obtain ⟨⟨h1, h2, h3, h4, h5⟩, h⟩ := h
      rw [hx] at hh; rw [hx]
      exact ⟨_, .inl ⟨e, he, es.length, rfl, boundA_of hh (by omega) (boundA_of hl h3 ⟨h1, h2, by omega, by omega, rfl⟩)⟩, h⟩
    · exact h.elim
  · rename_i id sz o m k l k' n hx hl hh
    split at h
    · rename_i e he
      obtain ⟨⟨h1, h2, h3, h4, h5⟩, h⟩ := h
      rw [hx] at hh; rw [hx]
      exact ⟨_, .inl ⟨e, he, m, rfl, boundA_of hh (by omega) (boundA_of hl h3 ⟨h1, h2, by omega, by omega, rfl⟩)⟩, h⟩
    · exact h.elim
  · rename_i s k l k' n hx hl hh
    obtain ⟨⟨h2, h3, h4, h5⟩, h⟩ := h
    rw [hx] at hh; rw [hx]
    exact ⟨_, .inr ⟨h2, s.size, rfl, boundA_of hh (by omega) (boundA_of hl h3 ⟨by omega, by omega, rfl⟩)⟩, h⟩
  · exact h.elim
def lenC (u : Bool) (q : Option TypeId) (x : AV) (K : AV → Prop) : Prop := match x with
  | .v (.string s) => needV (u = true) K (.v (.int .i64 (s.size : Int)))
  | .sl _ es => needV (q.isSome = true) K (.v (.int .i64 (es.length : Int)))
  | .own _ _ _ n => needV (q.isSome = true) K (.v (.int .i64 (n : Int)))
  | .v (.slice _ n _) => needV (q.isSome = true) K (.v (.int .i64 (n : Int)))
  | _ => False
def maxC (l : List AV) (K : AV → Prop) : Prop := match l with
  | [.v (.int k a), .v (.int _ b)] => K (.v (.int k (if b > a then b else a)))
  | _ => False
def sldC (l : List AV) (K : AV → Prop) : Prop := match l with
  | [.own id sz 0 (_ + 1)] => needV (sz = 1) K (.ptr id 1 0 0)
  | _ => False
def minC (l : List AV) (K : AV → Prop) : Prop := match l with
  | [.v (.int k a), .v (.int _ b)] => K (.v (.int k (if b < a then b else a)))
  | _ => False
def extC (x : AV) (i : Nat) (K : AV → Prop) : Prop := match x with
  | .tup vs => optV vs[i]? K
  | _ => False
end Go.Vai
namespace Go.Vai
open Go.RowKit
def makeFuncC (f : Nat) (first : List Operand) (cs fs : List AV) (K : AV → Prop) : Prop := match first with
  | [] => needV (headOK cs = true) K (.clo f cs)
  | _ :: _ => needV (cs = []) K (.clo f (.v (.tuple #[]) :: fs))
def pureC (P : Program) (op : Op) (E : Env) (σ : Store) (K : AV → Prop) : Prop := match op with
  | .move x => K (ev E x)
  | .assign x => K (ev E x)
  | .pick c x y => pickC (ev E c) (ev E x) (ev E y) K
  | .load t x => loadC P σ t (ev E x) K
  | .nilCheck x => nilchkC (ev E x) K
  | .binOp op t x y _ => binC P op t (ev E x) (ev E y) K
  | .build t parts => buildC P (tzA P t) (tfld P t) (tarr P t) (parts.toList.map fun p => (p.1, ev E p.2)) K
  | .unOp op _ x => unC op (ev E x) K
  | .convert src dst x => convC (tund P src) (tint P dst) (ev E x) K
  | .makeFunc (.func f) first cs => makeFuncC f first.toList (cs.toList.map (ev E)) (first.toList.map (ev E)) K
  | .fieldAddr s x f => (match ev E x with | .agg _ => False | _ => True) ∧ fldC P (tfld P s) f (ev E x) K
  | .field s x f => (match ev E x with | .agg _ => True | _ => False) ∧ fldC P (tfld P s) f (ev E x) K
  | .indexAddr t x i => idxAddrC P t (ev E x) (ev E i) K
  | .index t x i => idxC P t (ev E x) (ev E i) K
  | .extract x i => extC (ev E x) i K
  | .slice t x lo hi none => cutE P (tel P t) (tstr P t) (ev E x) (boundA E lo 0) (boundA E hi (lenN (ev E x))) K
  | .call { callee := .builtin .len, args, argTypes } => match args.toList, argTypes.toList with
    | [x], [t] => lenC (tstr P t) (tel P t) (ev E x) K
    | _, _ => False
  | .call { callee := .builtin .max, args, argTypes := _ } => maxC (args.toList.map (ev E)) K
  | .call { callee := .builtin .min, args, argTypes := _ } => minC (args.toList.map (ev E)) K
  | .call { callee := .builtin .unsafeSliceData, args, argTypes := _ } => sldC (args.toList.map (ev E)) K
  | _ => False
theorem pureC_of {P : Program} {op : Op} {E : Env} {σ : Store} {K : AV → Prop} (h : pureC P op E σ K) : ∃ r, pureV P op E σ r ∧ K r := by
  unfold pureC at h
  split at h
  · exact ⟨_, rfl, h⟩
  · exact ⟨_, rfl, h⟩
  · unfold pickC at h
    split at h
    · rename_i c x y c' hc; refine ⟨_, ?_, h⟩; simp only [pureV, hc]
    · exact h.elim
  · exact loadC_cells h
  · unfold nilchkC at h
    split at h
    · rename_i hx; refine ⟨_, ?_, h⟩; simp only [pureV, hx]
    · rename_i hx; refine ⟨_, ?_, h⟩; simp only [pureV, hx]
    · rename_i hx; refine ⟨_, ?_, h⟩; simp only [pureV, hx]
    · exact h.elim
  · exact binC_of h
  · exact buildC_of h
  · rename_i op t x
    unfold unC at h
    split at h
    · rename_i hx; refine ⟨_, ?_, h⟩; simp only [pureV, hx]
    · rename_i hx; refine ⟨_, ?_, h⟩; simp only [pureV, hx]
    · rename_i hx; refine ⟨_, ?_, h⟩; simp only [pureV, hx]
    · exact h.elim
  · unfold convC at h
    split at h
    · rename_i hq hx; refine ⟨_, ?_, h.2⟩
      have := h.1
      simp only [tund, Option.isSome_iff_exists] at this
      simp only [pureV, hq, hx]; exact ⟨this, trivial⟩
    · exact h.elim
  · rename_i f first cs
    unfold makeFuncC at h
    split at h
    · rename_i hfi
      exact ⟨_, .inl ⟨Array.toList_inj.1 (by rw [hfi]), h.1, rfl⟩, h.2⟩
    · have h1 : cs.toList = [] := List.map_eq_nil_iff.1 h.1
      exact ⟨_, .inr ⟨Array.toList_inj.1 (by rw [h1]), rfl⟩, h.2⟩
  · rename_i s x f
    obtain ⟨hn, h⟩ := h
    unfold fldC at h
    split at h
    · rename_i fs hfs
      unfold fldB at h
      split at h
      · rename_i off t e j hf hx; refine ⟨_, ?_, h.2⟩; simp only [pureV, hx]; exact ⟨fs, hfs, off, t, hf, h.1, rfl⟩
      · rename_i off t id sz i j hf hx; refine ⟨_, ?_, h.2⟩; simp only [pureV, hx]; exact ⟨fs, hfs, off, t, hf, h.1, rfl⟩
      · rename_i hf hx; rw [hx] at hn; exact hn.elim
      · exact h.elim
    · exact h.elim
  · rename_i s x f
    obtain ⟨hn, h⟩ := h
    unfold fldC at h
    split at h
    · rename_i fs hfs
      unfold fldB at h
      split at h
      · rename_i hf hx; rw [hx] at hn; exact hn.elim
      · rename_i hf hx; rw [hx] at hn; exact hn.elim
      · rename_i off t cs hf hx
        obtain ⟨r, hp, hK⟩ := partC_of h
        refine ⟨r, ?_, hK⟩; simp only [pureV, hx]; exact ⟨fs, hfs, off, t, hf, hp⟩
      · exact h.elim
    · exact h.elim
  · exact idxAddrC_of h
  · exact idxC_of h
  · unfold extC at h
    split at h
    · rename_i vs hx
      unfold optV at h
      split at h
      · rename_i r hr; refine ⟨r, ?_, h⟩; simp only [pureV, hx]; exact hr
      · exact h.elim
    · exact h.elim
  · exact cutE_of h
  · rename_i args ats
    split at h
    · rename_i x t ha hat
      unfold lenC at h
      simp only [pureV, ha, hat]
      split at h
      · rename_i s hx; exact ⟨_, .inl ⟨h.1, by rw [hx]⟩, h.2⟩
      · rename_i hx; exact ⟨_, .inr (.inl ⟨h.1, by rw [hx]⟩), h.2⟩
      · rename_i hx; exact ⟨_, .inr (.inl ⟨h.1, by rw [hx]⟩), h.2⟩
      · rename_i hx; exact ⟨_, .inr (.inl ⟨h.1, by rw [hx]⟩), h.2⟩
      · exact h.elim
    · exact h.elim
  · rename_i args ats
    unfold maxC at h
    split at h
    · rename_i hx; refine ⟨_, ?_, h⟩; simp only [pureV, hx]
    · exact h.elim
  · rename_i args ats
    unfold minC at h
    split at h
    · rename_i hx; refine ⟨_, ?_, h⟩; simp only [pureV, hx]
    · exact h.elim
  · rename_i args ats
    unfold sldC at h
    split at h
    · rename_i hx; refine ⟨_, ?_, h.2⟩; simp only [pureV, hx]; exact ⟨h.1, trivial⟩
    · exact h.elim
  · exact h.elim
def newK (d : Nat) (K : Env → Store → Prop) (E : Env) (σ : Store) (v : AV) (bl : List (Nat × Blk)) : Prop := K (upd E d v) (addS σ bl)
def needN (A : Prop) (K : AV → List (Nat × Blk) → Prop) (v : AV) (bl : List (Nat × Blk)) : Prop := A ∧ K v bl
def nilC (P : Program) (d : Nat) (q : Option TypeId) (K : AV → List (Nat × Blk) → Prop) : Prop := match q with
  | some e => K (.own (16 * d) (tsz P e) 0 0) [(16 * d, ⟨e, tsz P e, []⟩)]
  | none => False
def allocC (P : Program) (d : Nat) (t : TypeId) (q : Option TypeId) (s : Nat) (z : Option AV) (K : AV → List (Nat × Blk) → Prop) : Prop := match q with
  | some e => needN (tz P t = some (.slice none 0 0) ∧ s = 1) K (.ptr (16 * d) 1 0 0) [(16 * d + 1, ⟨e, tsz P e, []⟩), (16 * d, ⟨t, 1, [.own (16 * d + 1) (tsz P e) 0 0]⟩)]
  | none => match z with
    | some z => needN (z.ok = true ∧ z.cells.length = s ∧ s ≠ 0) K (.ptr (16 * d) s 0 0) [(16 * d, ⟨t, s, [z]⟩)]
    | none => False
def boxC (d : Nat) (t : TypeId) (s : Nat) (x : AV) (K : AV → List (Nat × Blk) → Prop) : Prop := needN (x.ok = true ∧ x.cells.length = s ∧ s ≠ 0) K (.ptr (16 * d) s 0 0) [(16 * d, ⟨t, s, [x]⟩)]
def allOK (s : Nat) (xs : List AV) : Bool := xs.all fun e => e.ok && e.cells.length == s
def bsliceC (P : Program) (d : Nat) (q : Option TypeId) (len : Nat) (is : List Nat) (xs : List AV) (K : AV → List (Nat × Blk) → Prop) : Prop := match q with
  | some e => match tzA P e with
    | some z => needN (0 < tsz P e ∧ z.ok = true ∧ z.cells.length = tsz P e ∧ len * tsz P e ≤ 16777216 ∧ is = List.range len ∧ allOK (tsz P e) xs = true) K (.own (16 * d) (tsz P e) 0 len) [(16 * d, ⟨e, tsz P e, xs⟩)]
    | none => False
  | none => False
def msliceC (P : Program) (d : Nat) (q : Option TypeId) (l c : AV) (K : AV → List (Nat × Blk) → Prop) : Prop := match q, l, c with
  | some e, .v (.int _ n), .v (.int _ m) => match tzA P e with
    | some z => needN (0 < tsz P e ∧ z.ok = true ∧ z.cells.length = tsz P e ∧ 0 ≤ n ∧ n ≤ m ∧ m * (tby P e : Int) ≤ 281474976710656 ∧ m ≤ 4611686018427387904) K (.own (16 * d) (tsz P e) 0 n.toNat) [(16 * d, ⟨e, tsz P e, List.replicate n.toNat z⟩)]
    | none => False
  | _, _, _ => False
def newC (P : Program) (d : Nat) (op : Op) (ty : TypeId) (E : Env) (K : AV → List (Nat × Blk) → Prop) : Prop := match op with
  | .move (.const (.slice none 0 0)) => nilC P d (tel P ty) K
  | .assign (.const (.slice none 0 0)) => nilC P d (tel P ty) K
  | .alloc t => allocC P d t (tel P t) (tsz P t) (tzA P t) K
  | .box t x => boxC d t (tsz P t) (ev E x) K
  | .buildSlice t len parts => bsliceC P d (tel P t) len (parts.toList.map (·.1)) (parts.toList.map fun p => ev E p.2) K
  | .makeSlice t l c => msliceC P d (tel P t) (ev E l) (ev E c) K
  | _ => False
theorem tzA_some {P : Program} {t : TypeId} {z : AV} (h : tzA P t = some z) : ∃ z0, tz P t = some z0 ∧ ofC z0 = z := by
  unfold tzA at h; exact Option.map_eq_some_iff.1 h
theorem newC_of {P : Program} {d : Nat} {op : Op} {ty : TypeId} {E : Env} {K : AV → List (Nat × Blk) → Prop} (h : newC P d op ty E K) : ∃ v bl, newV P d op ty E v bl ∧ K v bl := by
  unfold newC at h
  split at h
  · unfold nilC at h
    split at h
    · rename_i e he; exact ⟨_, _, ⟨e, he, rfl, rfl⟩, h⟩
    · exact h.elim
  · unfold nilC at h
    split at h
    · rename_i e he; exact ⟨_, _, ⟨e, he, rfl, rfl⟩, h⟩
    · exact h.elim
  · rename_i t
    unfold allocC at h
    split at h
    · rename_i e he
      refine ⟨_, _, ?_, h.2⟩
      simp only [newV, he]; exact ⟨h.1.1, h.1.2, trivial, trivial⟩
    · rename_i he
      split at h
      · rename_i z hz
        obtain ⟨z0, hz0, rfl⟩ := tzA_some hz
        refine ⟨_, _, ?_, h.2⟩
        simp only [newV, he]; exact ⟨z0, hz0, h.1.1, h.1.2.1, h.1.2.2, trivial, rfl⟩
      · exact h.elim
  · exact ⟨_, _, ⟨h.1.1, h.1.2.1, h.1.2.2, rfl, rfl⟩, h.2⟩
  · unfold bsliceC at h
    split at h
    · rename_i e he
      split at h
      · rename_i z hz
        obtain ⟨z0, hz0, rfl⟩ := tzA_some hz
        obtain ⟨⟨h1, h2, h3, h4, h5, h6⟩, h⟩ := h
        refine ⟨_, _, ⟨e, he, h1, ⟨z0, hz0, h2, h3⟩, h4, h5, fun p hp => ?_, rfl, rfl⟩, h⟩
        have := (List.all_eq_true.1 h6) _ (List.mem_map.2 ⟨p, hp, rfl⟩)
        simpa using this
      · exact h.elim
    · exact h.elim
  · rename_i t l c
    unfold msliceC at h
    split at h
    · rename_i e k n k' m he hl hc
      split at h
      · rename_i z hz
        obtain ⟨z0, hz0, rfl⟩ := tzA_some hz
        obtain ⟨⟨h1, h2, h3, h4, h5, h6, h7⟩, h⟩ := h
        refine ⟨_, _, ?_, h⟩
        simp only [newV, hl, hc]; exact ⟨e, he, h1, z0, hz0, h2, h3, h4, h5, h6, h7, rfl, rfl⟩
      · exact h.elim
    · exact h.elim
  · exact h.elim
def impK (x : AV × List (Nat × Blk)) (dst : Option Nat) (K : Env → Store → Prop) (E : Env) (σ : Store) : Prop := K (updO E dst x.1) (addS σ x.2)
def semD (S : Sp) (dst : Option Nat) (op : Op) (ty : TypeId) (K : Env → Store → Prop) (E : Env) (σ : Store) : Prop := ∀ pos after guard, semV S ⟨dst, op, ty, pos, after, guard⟩ K E σ
def callC (S : Sp) (kd bi : Bool) (nm : Nat) (g : Nat) (named : Bool) (args : List AV) (dst : Option Nat) (K : Env → Store → Prop) (E : Env) (σ : Store) (L : Prop) : Prop :=
  (∃ r, Ev S.P g args r ∧ (named = false ∨ r.flat = true) ∧ rlen r ≤ 16 ∧ (kd = true ∨ r.dn = false) ∧ impK (imp (16 * nm) r) dst K E σ) ∨ (bi = true ∧ L)
def yldK (S : Sp) (dst : Option Nat) (K : Env → Store → Prop) (E : Env) (σ : Store) (v g : AV) : Prop := K (updO (upd E S.N g) dst v) σ
def headC (b : Bool) (A B : Prop) : Prop := match b with
  | true => A
  | false => B
def callF (S : Sp) (kd bi : Bool) (nm : Nat) (f : AV) (args : List AV) (dst : Option Nat) (K Kb : Env → Store → Prop) (E : Env) (σ : Store) (E' : Env) (σ' : Store) (args' : List AV) (f' : AV) (L : Prop) : Prop :=
  match f with
  | .yld l => need (bi = true ∧ l = S.yl ∧ AV.namesL allB args = false) (S.Y args (E S.N) (yldK S dst Kb E σ))
  | _ => match f' with
    | .clo g caps => headC (headOK caps) (callC S kd bi nm g (AV.namesL allB (args' ++ caps)) ((args' ++ caps).map (res σ')) dst K E' σ' L) (bi = true ∧ L)
    | _ => False
def appK (d : Nat) (K : Env → Store → Prop) (E : Env) (σ : Store) (id sz n : Nat) (k : Blk) : Prop := K (upd (killE (isId id) E) d (.own id sz 0 n)) (updS (killS (isId id) σ) id (k.kill (isId id)))
def srcC (σ : Store) (x : AV) : Option (Nat × List AV) := match x with
  | .sl sz es => some (sz, es)
  | .v (.string s) => some (1, (bI s).map Y)
  | .own id sz i n => (σ id).bind fun k => if k.sz = sz ∧ i + n ≤ k.es.length then some (sz, (k.es.drop i).take n) else none
  | _ => none
def needA (A : Prop) (K : Nat → Nat → Nat → Blk → Prop) (id sz n : Nat) (k : Blk) : Prop := A ∧ K id sz n k
def appA (P : Program) (q : Option TypeId) (s : AV) (ok : Nat → Option Blk) (src : Option (Nat × List AV)) (K : Nat → Nat → Nat → Blk → Prop) : Prop := match q, s, src with
  | some e, .own id sz 0 n, some (sz', xs) => match ok id, tzA P e with
    | some k, some z => needA (0 < tsz P e ∧ z.ok = true ∧ z.cells.length = tsz P e ∧ sz = tsz P e ∧ k.sz = sz ∧ k.e = e ∧ n ≤ k.es.length ∧ sz' = sz ∧ allOK sz xs = true ∧ (n + xs.length) * tby P e ≤ 140737488355328 ∧ n + xs.length ≤ 4611686018427387904) K
        id sz (n + xs.length) ⟨e, sz, k.es.take n ++ xs⟩
    | _, _ => False
  | _, _, _ => False
def appC (P : Program) (args : List Operand) (ats : List TypeId) (E : Env) (σ : Store) (K : Nat → Nat → Nat → Blk → Prop) : Prop := match args, ats with
  | [s, x], [t, t'] => need (appT P t t' (ev E x) = true) (appA P (tel P t) (ev E s) σ (srcC σ (ev E x)) K)
  | _, _ => False
theorem srcC_of {σ : Store} {x : AV} {K : Nat → List AV → Prop} {sz : Nat} {xs : List AV} (h : srcC σ x = some (sz, xs)) (hK : K sz xs) : srcEls σ x K := by
  unfold srcC at h
  unfold srcEls
  split at h
  · cases h; exact hK
  · cases h; exact hK
  · rename_i id sz' i n
    obtain ⟨k, hk, h⟩ := Option.bind_eq_some_iff.1 h
    split at h
    · rename_i hc; cases h; exact ⟨k, hk, hc.1, hc.2, hK⟩
    · cases h
  · cases h
theorem appC_of {P : Program} {args : Array Operand} {ats : Array TypeId} {E : Env} {σ : Store} {K : Nat → Nat → Nat → Blk → Prop} (h : appC P args.toList ats.toList E σ K) :
    appV P (.call { callee := .builtin .append, args, argTypes := ats }) E σ K := by
  simp only [appV]
  revert h
  generalize args.toList = l
  generalize ats.toList = m
  intro h
  unfold appC at h
  split at h
  · obtain ⟨h0, h⟩ := h
    refine ⟨h0, ?_⟩
    unfold appA at h
    split at h
    · rename_i e id sz n sz' xs he hs hx
      split at h
      · rename_i k z hk hz
        obtain ⟨z0, hz0, rfl⟩ := tzA_some hz
        obtain ⟨⟨h1, h2, h3, h4, h5, h6, h7, h8, h9, h10, h11⟩, h⟩ := h
        refine ⟨e, he, h1, ⟨z0, hz0, h2, h3⟩, ?_⟩
        rw [hs]
        exact ⟨h4, k, hk, h5, h6, h7, srcC_of hx ⟨fun _ => h8, fun e he => by have := List.all_eq_true.1 h9 e he; simpa using this, h10, h11, h⟩⟩
      · exact h.elim
    · exact h.elim
  · exact h.elim
def stoE (P : Program) (t : TypeId) (k : Blk) (o : Option AV) (id sz i j : Nat) (v : AV) (K : Env → Store → Prop) (E : Env) (σ : Store) : Prop := match o with
  | some e => needS (k.sz = sz ∧ v.ok = true ∧ v.cells.length = tsz P t ∧ 0 < tsz P t ∧ j + tsz P t ≤ sz) K E (updS σ id ⟨k.e, k.sz, k.es.set i (setC e j v)⟩)
  | none => False
def stoB (P : Program) (t : TypeId) (o : Option Blk) (id sz i j : Nat) (v : AV) (K : Env → Store → Prop) (E : Env) (σ : Store) : Prop := match o with
  | some k => stoE P t k k.es[i]? id sz i j v K E σ
  | none => False
def storeC (P : Program) (t : TypeId) (x v : AV) (dst : Option Nat) (K : Env → Store → Prop) (E : Env) (σ : Store) : Prop := match x with
  | .ptr id sz i j => stoB P t (σ id) id sz i j v K (updO E dst (.v undef)) σ
  | _ => False
def moveK (S : Sp) (kd : Bool) (dst : Option Nat) (ty : TypeId) (x : Operand) (K : Env → Store → Prop) (E : Env) (σ : Store) : Prop := match x with
  | .const (.slice none 0 0) => match tel S.P ty with
    | some e => match dst with
      | some d => nilC S.P (S.b + d) (some e) (newK d K (kE kd (S.b + d) E) (kS kd (S.b + d) σ))
      | none => False
    | none => putK dst K E σ (.v (.slice none 0 0))
  | x => putK dst K E σ (ev E x)
def newA (S : Sp) (kd : Bool) (dst : Option Nat) (op : Op) (ty : TypeId) (K : Env → Store → Prop) (E : Env) (σ : Store) : Prop := match dst with
  | some d => newC S.P (S.b + d) op ty (kE kd (S.b + d) E) (newK d K (kE kd (S.b + d) E) (kS kd (S.b + d) σ))
  | none => False
def restA (S : Sp) (dst : Option Nat) (op : Op) (ty : TypeId) (c : Nat) (K Kb : Env → Store → Prop) (E : Env) (σ : Store) : Prop := match c with
  | 0 => pureC S.P op E σ (putK dst K E σ)
  | 5 => semD S dst op ty Kb E σ
  | _ => False
def aopC (S : Sp) (kd bi : Bool) (dst : Option Nat) (op : Op) (ty : TypeId) (K Kb : Env → Store → Prop) (E : Env) (σ : Store) : Prop := match op with
  | .move x => moveK S kd dst ty x K E σ
  | .assign x => moveK S kd dst ty x K E σ
  | .alloc t => newA S kd dst (.alloc t) ty K E σ
  | .box t x => newA S kd dst (.box t x) ty K E σ
  | .buildSlice t len parts => newA S kd dst (.buildSlice t len parts) ty K E σ
  | .makeSlice t l c => newA S kd dst (.makeSlice t l c) ty K E σ
  | .call { callee := .value f, args, argTypes } =>
    callF S kd bi (S.b + dst.getD 99999) (ev E f) (args.toList.map (ev E)) dst K Kb E σ (kE kd (S.b + dst.getD 99999) E) (kS kd (S.b + dst.getD 99999) σ) (args.toList.map (ev (kE kd (S.b + dst.getD 99999) E))) (ev (kE kd (S.b + dst.getD 99999) E) f)
      (semD S dst (.call { callee := .value f, args, argTypes }) ty Kb E σ)
  | .call { callee := .builtin .append, args, argTypes } => match dst with
    | some d => appC S.P args.toList argTypes.toList E σ fun id sz n k => need (S.pin id = false) (appK d Kb E σ id sz n k)
    | none => False
  | .store t x y => storeC S.P t (ev E x) (ev E y) dst Kb E σ
  | op => restA S dst op ty (cls S.P op ty) K Kb E σ
def YMono (S : Sp) : Prop := ∀ args g (K K' : AV → AV → Prop), (∀ v g, K v g → K' v g) → S.Y args g K → S.Y args g K'
theorem semV_mono {S : Sp} {o : Oper} {K K' : Env → Store → Prop} {E : Env} {σ : Store} (hK : ∀ E σ, K E σ → K' E σ) (h : semV S o K E σ) : semV S o K' E σ :=
  fun C H n a w Kc Q hs hc => h C H n a w Kc Q hs fun E' σ' a' w' hk => hc E' σ' a' w' (hK _ _ hk)
theorem cls_move {P : Program} {ty : TypeId} (x : Operand) (hx : x = .const (.slice none 0 0) → False) : cls P (.move x) ty = 0 ∧ cls P (.assign x) ty = 0 := by
  cases x with
  | const v => cases v with
    | slice a n c => cases a <;> cases n <;> cases c <;> first | exact ⟨rfl, rfl⟩ | exact (hx rfl).elim
    | _ => exact ⟨rfl, rfl⟩
  | _ => exact ⟨rfl, rfl⟩
theorem aopC_of {S : Sp} (hY : YMono S) {kd bi : Bool} {o : Oper} {K K' Kb Kb' : Env → Store → Prop} {E : Env} {σ : Store} (hK : ∀ E σ, K E σ → K' E σ) (hKb : ∀ E σ, Kb E σ → Kb' E σ) (h : aopC S kd bi o.dst o.op o.type K Kb E σ) :
    aop S kd bi o K' Kb' E σ := by
  obtain ⟨dst, op, ty, pos, after, guard⟩ := o
  simp only at h
  have pure0 : ∀ {op : Op}, cls S.P op ty = 0 → pureC S.P op E σ (putK dst K E σ) → aop S kd bi ⟨dst, op, ty, pos, after, guard⟩ K' Kb' E σ := fun hc h => by
    obtain ⟨r, hr, hk⟩ := pureC_of h
    simp only [aop, hc]; exact ⟨r, hr, hK _ _ hk⟩
  have new1 : ∀ {op : Op}, cls S.P op ty = 1 → newA S kd dst op ty K E σ → aop S kd bi ⟨dst, op, ty, pos, after, guard⟩ K' Kb' E σ := fun hc h => by
    unfold newA at h
    split at h
    · obtain ⟨v, bl, hr, hk⟩ := newC_of h
      simp only [aop, hc]; exact ⟨_, rfl, v, bl, hr, hK _ _ hk⟩
    · exact h.elim
  have move : ∀ (x : Operand) (op : Op), op = .move x ∨ op = .assign x → moveK S kd dst ty x K E σ → aop S kd bi ⟨dst, op, ty, pos, after, guard⟩ K' Kb' E σ := fun x op hop h => by
    unfold moveK at h
    split at h
    · split at h
      · rename_i e he
        split at h
        · refine new1 ?_ ?_
          · rcases hop with rfl | rfl <;> simp [cls, he]
          · rcases hop with rfl | rfl <;> simpa only [newA, newC, he] using h
        · exact h.elim
      · rename_i he
        refine pure0 ?_ ?_
        · rcases hop with rfl | rfl <;> simp [cls, he]
        · rcases hop with rfl | rfl <;> exact h
    · rename_i hne
      refine pure0 ?_ ?_
      · have := cls_move (P := S.P) (ty := ty) x hne
        rcases hop with rfl | rfl
        · exact this.1
        · exact this.2
      · rcases hop with rfl | rfl <;> exact h
  unfold aopC at h
  split at h
  · exact move _ _ (.inl rfl) h
  · exact move _ _ (.inr rfl) h
  · exact new1 rfl h
  · exact new1 rfl h
  · exact new1 rfl h
  · exact new1 rfl h
  · rename_i f args ats
    show (∃ v bl, callV S _ _ _ _ _ v bl ∧ _) ∨ _
    unfold callF at h
    split at h
    · rename_i l hl
      obtain ⟨⟨h1, h2, h3⟩, h⟩ := h
      refine .inr (.inl ⟨h1, ?_⟩)
      simp only [yieldV, hl]
      exact ⟨h2, h3, hY _ _ _ _ (fun v g hk => hKb _ _ hk) h⟩
    · split at h
      · rename_i g caps hg
        unfold headC at h
        split at h
        rotate_left
        · exact .inr (.inr ⟨h.1, semV_mono hKb (h.2 pos after guard)⟩)
        rename_i hhd
        rcases h with ⟨r, hΓ, h1, h2, h3, hk⟩ | ⟨hb, hl⟩
        · refine .inl ⟨_, _, ?_, hK _ _ hk⟩
          simp only [callV, hg]
          exact ⟨hhd, r, hΓ, h1, h2, h3, rfl, rfl⟩
        · exact .inr (.inr ⟨hb, semV_mono hKb (hl pos after guard)⟩)
      · exact h.elim
  · split at h
    · rename_i d
      have := appC_of h
      show ∃ d, _ ∧ appV _ _ _ _ _
      refine ⟨d, rfl, ?_⟩
      exact appV_mono (fun id sz n k hk => ⟨hk.1, hKb _ _ hk.2⟩) this
    · exact h.elim
  · rename_i t x y
    have hc : cls S.P (.store t x y) ty = 4 := rfl
    simp only [aop, hc, storeV]
    unfold storeC at h
    split at h
    · rename_i id sz i j hx
      unfold stoB at h
      split at h
      · rename_i k hk
        unfold stoE at h
        split at h
        · rename_i e he
          obtain ⟨⟨h1, h2, h3, h4, h5⟩, h⟩ := h
          rw [hx]; exact ⟨k, hk, h1, e, he, h2, h3, h4, h5, hKb _ _ h⟩
        · exact h.elim
      · exact h.elim
    · exact h.elim
  · unfold restA at h
    split at h
    · rename_i hc; exact pure0 hc h
    · rename_i hc
      simp only [aop, hc]
      exact semV_mono hKb (h pos after guard)
    · exact h.elim
end Go.Vai
namespace Go.Vai
open Go.RowKit
def guardC (S : Sp) (kd bi : Bool) (a : AV) (want : Bool) (t : Nat) (dst : Option Nat) (op : Op) (ty : TypeId) (K Kb : Env → Store → Prop) (E : Env) (σ : Store) : Prop := match a, want with
  | .v (.bool b), true => branch (b = true) (aopC S kd bi dst op ty K Kb) (upd E t (.v (.bool true))) K (updO (upd E t (.v (.bool false))) dst (.v undef)) σ
  | .v (.bool b), false => branch (b = true) K (updO (upd E t (.v (.bool true))) dst (.v undef)) (aopC S kd bi dst op ty K Kb) (upd E t (.v (.bool false))) σ
  | .v (.tuple _), _ => K (updO E dst (.v undef)) σ
  | _, _ => False
def dstAt : List Oper → Nat → Option Nat
  | [], _ => none
  | o :: _, 0 => o.dst
  | _ :: l, n + 1 => dstAt l n
def guardD (S : Sp) (kd bi : Bool) (o : Option Nat) (want : Bool) (dst : Option Nat) (op : Op) (ty : TypeId) (K Kb : Env → Store → Prop) (E : Env) (σ : Store) : Prop := match o with
  | some t => guardC S kd bi (E t) want t dst op ty K Kb E σ
  | none => False
def gopC (S : Sp) (kd bi : Bool) (ops : List Oper) (o : Oper) (K Kb : Env → Store → Prop) (E : Env) (σ : Store) : Prop := match o.guard with
  | none => aopC S kd bi o.dst o.op o.type K Kb E σ
  | some (j, want) => guardD S kd bi (dstAt ops j) want o.dst o.op o.type K Kb E σ
def regN (b c : Nat) (dst : Option Nat) (l : List Nat) : List Nat := if c == 1 || c == 2 then (b + dst.getD 99999) :: l else l
def regL (S : Sp) : List Oper → List Nat
  | [] => []
  | o :: l => regN S.b (cls S.P o.op o.type) o.dst (regL S l)
def inL (l : List Nat) : Nat → Bool := fun i => l.contains (i / 16)
theorem regL_eq (S : Sp) (ops : List Oper) : (ops.filterMap fun o => if cls S.P o.op o.type == 1 || cls S.P o.op o.type == 2 then some (S.b + o.dst.getD 99999) else none) = regL S ops := by
  induction ops with
  | nil => rfl
  | cons o l ih =>
    simp only [List.filterMap_cons, regL, regN]
    split
    · rename_i h; split at h
      · cases h
      · rename_i hc; rw [if_neg hc]; exact ih
    · rename_i h; split at h
      · rename_i hc; cases h; rw [if_pos hc, ih]
      · cases h
theorem regP_eq (S : Sp) (ops : List Oper) : regP S ops = inL (regL S ops) := by
  unfold regP inL; rw [regL_eq]
def struckC (S : Sp) (dr : Bool) (l : List Oper) (K : Env → Store → Prop) (E : Env) (σ : Store) : Prop := match dr with
  | true => K (killE (inL (regL S l)) E) (killS (inL (regL S l)) σ)
  | false => K E σ
theorem struckC_eq (S : Sp) (dr : Bool) (l : List Oper) (K : Env → Store → Prop) : struckC S dr l K = struck S dr l K := by
  funext E σ; cases dr
  · simp [struckC, struck]
  · simp [struckC, struck, regP_eq]
def opsC (S : Sp) (dr : Bool) (ops : Array Oper) : Nat → List Oper → (Env → Store → Prop) → Env → Store → Prop
  | _, [], K => K
  | i, o :: rest, K => gopC S (!dr) (!dr || bar ops i) ops.toList o (opsC S dr ops (i + 1) rest K) (struckC S dr rest (opsC S dr ops (i + 1) rest K))
mutual
theorem AV.namesB_none : ∀ a : AV, AV.namesB (fun _ => false) a = false
  | .own .. => rfl
  | .ptr .. => rfl
  | .agg cs => by simp only [AV.namesB]; exact AV.namesL_none cs
  | .tup cs => by simp only [AV.namesB]; exact AV.namesL_none cs
  | .clo _ cs => by simp only [AV.namesB]; exact AV.namesL_none cs
  | .any => rfl
  | .v _ => rfl
  | .sl .. => rfl
  | .pt .. => rfl
  | .new .. => rfl
  | .nptr .. => rfl
  | .yld _ => rfl
  | .mp _ => rfl
  | .mref _ => rfl
  | .cut .. => rfl
theorem AV.namesL_none : ∀ l : List AV, AV.namesL (fun _ => false) l = false
  | [] => rfl
  | c :: cs => by simp only [AV.namesL, AV.namesB_none c, AV.namesL_none cs]; rfl
end
theorem inL_nil : inL [] = fun _ => false := by funext i; simp [inL]
@[go_sem] theorem killE_nil (E : Env) : killE (inL []) E = E := by
  rw [inL_nil]; funext t; simp [killE, AV.kill, AV.namesB_none]
@[go_sem] theorem killS_nil (σ : Store) : killS (inL []) σ = σ := by
  rw [inL_nil]; funext t
  simp only [killS]
  cases σ t <;> simp [Blk.kill, AV.namesL_none]
def regC (S : Sp) (draw : Bool) (ops : Array Oper) (K : Env → Store → Prop) (E : Env) (σ : Store) : Prop := struckC S draw ops.toList (opsC S draw ops 0 ops.toList K) E σ
def condC (a : AV) (X Y : Env → Store → Prop) (E : Env) (σ : Store) : Prop := match a with
  | .v (.bool b) => branch (b = true) X E Y E σ
  | _ => False
def loopC (B : (Exit → Env → Store → Prop) → Env → Store → Prop) (Q : Exit → Env → Store → Prop) (E : Env) (σ : Store) : Prop :=
  ∃ I : Nat → Env → Store → Prop, (∃ n, I n E σ) ∧ ∀ n E σ, I n E σ → B (thenQ (fun E' σ' => ∃ m, m < n ∧ I m E' σ') Q) E σ
def regX (b : Bool) (X Y : Prop) : Prop := match b with | false => X | true => Y
def awpC (S : Sp) : Code → (Exit → Env → Store → Prop) → Env → Store → Prop
  | .skip, Q => Q .normal
  | .label _, Q => Q .normal
  | .seq a b, Q => awpC S a (thenQ (awpC S b Q) Q)
  | .region id ops draw, Q => fun E σ => regX (S.bad id) (regC S draw ops (Q .normal) E σ) (semC S (.region id ops draw) Q E σ)
  | .cond c x y, Q => fun E σ => condC (ev E c) (awpC S x Q) (awpC S y Q) E σ
  | .block id c, Q => awpC S c (blockQ id Q)
  | .scope c, Q => awpC S c (scopeQ Q)
  | .loop c, Q => loopC (awpC S c) Q
  | .exit id, Q => Q (.exit id)
  | .ret, Q => Q .ret
  | .rangeFunc f ps as body, Q => semC S (.rangeFunc f ps as body) Q
  | _, _ => fun _ _ => False
theorem dstAt_eq (ops : Array Oper) (j : Nat) : (ops[j]?).bind (·.dst) = dstAt ops.toList j := by
  have : ∀ (l : List Oper) (j : Nat), (l[j]?).bind (·.dst) = dstAt l j := by
    intro l
    induction l with
    | nil => intro j; rfl
    | cons o l ih => intro j; cases j with | zero => rfl | succ j => exact ih j
  rw [← this, Array.getElem?_toList]
theorem gopC_of {S : Sp} (hY : YMono S) {kd bi : Bool} {ops : Array Oper} {o : Oper} {K K' Kb Kb' : Env → Store → Prop} {E : Env} {σ : Store} (hK : ∀ E σ, K E σ → K' E σ) (hKb : ∀ E σ, Kb E σ → Kb' E σ)
    (h : gopC S kd bi ops.toList o K Kb E σ) : gop S kd bi ops o K' Kb' E σ := by
  unfold gopC at h
  unfold gop
  split at h
  · rename_i hg; rw [hg]; exact aopC_of hY hK hKb h
  · rename_i j want hg
    rw [hg]
    simp only [dstAt_eq]
    unfold guardD at h
    split at h
    · rename_i t ht
      rw [ht]
      simp only
      unfold guardC at h
      split at h
      · rename_i b hb
        rw [hb]
        exact ⟨fun e => aopC_of hY hK hKb (h.1 e), fun e => hK _ _ (h.2 (by subst e; simp))⟩
      · rename_i b hb
        rw [hb]
        exact ⟨fun e => aopC_of hY hK hKb (h.2 (by subst e; simp)), fun e => hK _ _ (h.1 e)⟩
      · rename_i hb; rw [hb]; exact hK _ _ h
      · exact h.elim
    · exact h.elim
theorem struck_mono {S : Sp} {dr : Bool} {l : List Oper} {K K' : Env → Store → Prop} (hK : ∀ E σ, K E σ → K' E σ) (E : Env) (σ : Store) (h : struck S dr l K E σ) : struck S dr l K' E σ := by
  unfold struck at *; split at h <;> simp_all
theorem opsC_of {S : Sp} (hY : YMono S) {dr : Bool} {ops : Array Oper} : ∀ (l : List Oper) (i : Nat) {K K' : Env → Store → Prop} {E : Env} {σ : Store}, (∀ E σ, K E σ → K' E σ) → opsC S dr ops i l K E σ → awpOps S dr ops i l K' E σ
  | [], _, _, _, _, _, hK, h => hK _ _ h
  | _ :: l, i, _, _, _, _, hK, h => gopC_of hY (fun _ _ hk => opsC_of hY l (i + 1) hK hk) (fun E σ hk => by rw [struckC_eq] at hk; exact struck_mono (fun _ _ hk => opsC_of hY l (i + 1) hK hk) E σ hk) h
theorem thenQ_mono {K K' : Env → Store → Prop} {Q Q' : Exit → Env → Store → Prop} (hK : ∀ E σ, K E σ → K' E σ) (hQ : ∀ e E σ, Q e E σ → Q' e E σ) (e : Exit) (E : Env) (σ : Store) (h : thenQ K Q e E σ) : thenQ K' Q' e E σ := by
  cases e <;> first | exact hK _ _ h | exact hQ _ _ _ h
theorem blockQ_mono {id : Nat} {Q Q' : Exit → Env → Store → Prop} (hQ : ∀ e E σ, Q e E σ → Q' e E σ) (e : Exit) (E : Env) (σ : Store) (h : blockQ id Q e E σ) : blockQ id Q' e E σ := by
  cases e <;> simp only [blockQ] at * <;> first | (split at h <;> simp_all) | exact hQ _ _ _ h
theorem scopeQ_mono {Q Q' : Exit → Env → Store → Prop} (hQ : ∀ e E σ, Q e E σ → Q' e E σ) (e : Exit) (E : Env) (σ : Store) (h : scopeQ Q e E σ) : scopeQ Q' e E σ := by
  cases e <;> first | exact h.elim | exact hQ _ _ _ h
theorem least {p : Nat → Prop} (h : ∃ n, p n) : ∃ m, p m ∧ ∀ k, p k → m ≤ k := by
  obtain ⟨n, hn⟩ := h
  induction n using Nat.strongRecOn with
  | ind n ih =>
    by_cases hk : ∃ k, k < n ∧ p k
    · obtain ⟨k, hk, hp⟩ := hk; exact ih k hk hp
    · exact ⟨n, hn, fun k hp => Nat.le_of_not_lt fun hlt => hk ⟨k, hlt, hp⟩⟩
theorem awpC_of {S : Sp} (hY : YMono S) : ∀ (c : Code) {Q Q' : Exit → Env → Store → Prop} {E : Env} {σ : Store}, (∀ e E σ, Q e E σ → Q' e E σ) → awpC S c Q E σ → awp S c Q' E σ
  | .skip, Q, Q', E, σ, hQ, h => hQ .normal E σ h
  | .label _, Q, Q', E, σ, hQ, h => hQ .normal E σ h
  | .seq a b, Q, Q', E, σ, hQ, h => by
    simp only [awpC] at h
    simp only [awp]
    exact awpC_of hY a (thenQ_mono (fun _ _ h => awpC_of hY b hQ h) hQ) h
  | .region id ops draw, Q, Q', E, σ, hQ, h => by
    simp only [awpC] at h
    simp only [awp]
    unfold regX at h
    split at h
    · rename_i hb
      rw [if_neg (by rw [hb]; simp)]
      unfold regC at h
      rw [struckC_eq] at h
      exact struck_mono (fun _ _ hk => opsC_of hY _ 0 (hQ .normal) hk) E σ h
    · rename_i hb
      rw [if_pos hb]
      exact fun C H n R hR a w hs => h C H n R (fun e E σ a w hq hs => hR e E σ a w (hQ _ _ _ hq) hs) a w hs
  | .cond c x y, Q, Q', E, σ, hQ, h => by
    simp only [awpC] at h
    simp only [awp]
    unfold condC at h
    split at h
    · rename_i b hb
      rw [hb]
      exact ⟨fun e => awpC_of hY x hQ (h.1 e), fun e => awpC_of hY y hQ (h.2 (by subst e; simp))⟩
    · exact h.elim
  | .block id c, Q, Q', E, σ, hQ, h => by
    simp only [awpC] at h
    simp only [awp]
    exact awpC_of hY c (blockQ_mono hQ) h
  | .scope c, Q, Q', E, σ, hQ, h => by
    simp only [awpC] at h
    simp only [awp]
    exact awpC_of hY c (scopeQ_mono hQ) h
  | .loop c, Q, Q', E, σ, hQ, h => by
    simp only [awpC] at h
    simp only [awp]
    obtain ⟨I, ⟨n, hn⟩, hI⟩ := h
    classical
    -- the least that is left
    let μ : Env → Store → Nat := fun E σ => if h : ∃ n, I n E σ then Classical.choose (least h) else 0
    have hμ : ∀ m E σ, I m E σ → I (μ E σ) E σ ∧ μ E σ ≤ m := fun m E σ h => by
      have he : ∃ n, I n E σ := ⟨m, h⟩
      simp only [μ, dif_pos he]
      have hc := Classical.choose_spec (least he); exact ⟨hc.1, hc.2 m h⟩
    refine ⟨fun E σ => ∃ n, I n E σ, μ, ⟨n, hn⟩, fun E σ ⟨m, hm⟩ => ?_⟩
    refine awpC_of hY c (thenQ_mono (fun E' σ' ⟨k, hk, hi⟩ => ?_) hQ) (hI _ E σ (hμ m E σ hm).1)
    exact ⟨⟨k, hi⟩, Nat.lt_of_le_of_lt (hμ k E' σ' hi).2 hk⟩
  | .exit _, Q, Q', E, σ, hQ, h => hQ _ E σ h
  | .ret, Q, Q', E, σ, hQ, h => hQ .ret E σ h
  | .rangeFunc f ps as body, Q, Q', E, σ, hQ, h => fun C H n R hR a w hs => h C H n R (fun e E σ a w hq hs => hR e E σ a w (hQ _ _ _ hq) hs) a w hs
end Go.Vai
namespace Go.Vai
open Go.RowKit
section
variable {A B L : Prop} {P : Program} {S : Sp} {kd bi dr : Bool} {arr : Array Oper} {Kb : Env → Store → Prop} {dst : Option Nat} {ty t : TypeId} {K : Env → Store → Prop} {Q : Exit → Env → Store → Prop} {E : Env} {σ : Store} {k : AV → Prop} {ops : List Oper}
@[go_sem] theorem need_true (X : Prop) : need True X = X := by simp [need]
@[go_sem] theorem need_and (X : Prop) : need (A ∧ B) X = need A (need B X) := by simp [need, and_assoc]
@[go_sem] theorem need_of (X : Prop) (h : A) : need A X = X := by simp [need, h]
@[go_sem] theorem needV_true (v : AV) : needV True k v = k v := by simp [needV]
@[go_sem] theorem needV_and (v : AV) : needV (A ∧ B) k v = needV A (needV B k) v := by simp [needV, and_assoc]
@[go_sem] theorem needV_of (v : AV) (h : A) : needV A k v = k v := by simp [needV, h]
@[go_sem] theorem needS_true : needS True K E σ = K E σ := by simp [needS]
@[go_sem] theorem needS_and : needS (A ∧ B) K E σ = needS A (needS B K) E σ := by simp [needS, and_assoc]
@[go_sem] theorem needS_of (h : A) : needS A K E σ = K E σ := by simp [needS, h]
variable {kn : AV → List (Nat × Blk) → Prop} {ka : Nat → Nat → Nat → Blk → Prop}
@[go_sem] theorem needN_true (v : AV) (l : List (Nat × Blk)) : needN True kn v l = kn v l := by simp [needN]
@[go_sem] theorem needN_and (v : AV) (l : List (Nat × Blk)) : needN (A ∧ B) kn v l = needN A (needN B kn) v l := by simp [needN, and_assoc]
@[go_sem] theorem needN_of (v : AV) (l : List (Nat × Blk)) (h : A) : needN A kn v l = kn v l := by simp [needN, h]
@[go_sem] theorem needA_true (id sz n : Nat) (b : Blk) : needA True ka id sz n b = ka id sz n b := by simp [needA]
@[go_sem] theorem needA_and (id sz n : Nat) (b : Blk) : needA (A ∧ B) ka id sz n b = needA A (needA B ka) id sz n b := by simp [needA, and_assoc]
@[go_sem] theorem needA_of (id sz n : Nat) (b : Blk) (h : A) : needA A ka id sz n b = ka id sz n b := by simp [needA, h]
@[go_sem] theorem putK_some (d : Nat) (v : AV) : putK (some d) K E σ v = K (upd E d v) σ := rfl
@[go_sem] theorem putK_none (v : AV) : putK none K E σ v = K E σ := rfl
@[go_sem] theorem branch_true (X Y : Env → Store → Prop) (E' : Env) : branch True X E Y E' σ = X E σ := by simp [branch]
@[go_sem] theorem branch_false (X Y : Env → Store → Prop) (E' : Env) : branch False X E Y E' σ = Y E' σ := by simp [branch]
attribute [go_sem] decide_eq_true_eq beq_iff_eq bne_iff_ne Bool.and_eq_true Bool.or_eq_true Bool.not_eq_true' Bool.not_true Bool.not_false Bool.false_eq_true decide_eq_false_iff_not beq_eq_false_iff_ne
attribute [go_sem] List.nil_append List.cons_append List.append_nil List.map_cons List.map_nil List.length_cons List.length_nil List.getElem?_cons_zero List.getElem?_cons_succ List.drop_succ_cons List.drop_zero List.take_succ_cons List.take_zero List.drop_nil List.take_nil List.all_cons List.all_nil
attribute [go_sem] Bool.true_and Bool.and_true Bool.false_and Bool.and_false Bool.or_false Bool.false_or Bool.or_true Bool.true_or true_and and_true Option.getD_some Option.getD_none Int.toNat_natCast List.contains_cons List.contains_nil Option.isSome_some Option.isSome_none
@[go_sem] theorem optV_some (r : AV) : optV (some r) k = k r := rfl
@[go_sem] theorem optPt_some (r : AV) : optPt A (some r) k = needV A k (.pt r 0) := rfl
@[go_sem] theorem optU_some (c : UInt8) : optU A (some c) k = needV A k (.v (.int .u8 c.toNat)) := rfl
@[go_sem ↓] theorem awpC_skip : awpC S .skip Q E σ = Q .normal E σ := rfl
@[go_sem ↓] theorem awpC_label (l : Nat) : awpC S (.label l) Q E σ = Q .normal E σ := rfl
@[go_sem ↓] theorem awpC_seq (a b : Code) : awpC S (.seq a b) Q E σ = awpC S a (thenQ (awpC S b Q) Q) E σ := by simp only [awpC]
@[go_sem ↓] theorem awpC_region (id : Nat) (os : Array Oper) (draw : Bool) : awpC S (.region id os draw) Q E σ = regX (S.bad id) (regC S draw os (Q .normal) E σ) (semC S (.region id os draw) Q E σ) := by simp only [awpC]
@[go_sem ↓] theorem regX_false (X Y : Prop) : regX false X Y = X := rfl
@[go_sem ↓] theorem regX_true (X Y : Prop) : regX true X Y = Y := rfl
@[go_sem ↓] theorem awpC_cond (c : Operand) (x y : Code) : awpC S (.cond c x y) Q E σ = condC (ev E c) (awpC S x Q) (awpC S y Q) E σ := by simp only [awpC]
@[go_sem ↓] theorem awpC_block (id : Nat) (c : Code) : awpC S (.block id c) Q E σ = awpC S c (blockQ id Q) E σ := by simp only [awpC]
@[go_sem ↓] theorem awpC_loop (c : Code) : awpC S (.loop c) Q E σ = loopC (awpC S c) Q E σ := by simp only [awpC]
@[go_sem ↓] theorem awpC_exit (id : Nat) : awpC S (.exit id) Q E σ = Q (.exit id) E σ := rfl
@[go_sem ↓] theorem awpC_ret : awpC S .ret Q E σ = Q .ret E σ := rfl
@[go_sem ↓] theorem thenQ_normal : thenQ K Q .normal E σ = K E σ := rfl
@[go_sem ↓] theorem thenQ_exit (id : Nat) : thenQ K Q (.exit id) E σ = Q (.exit id) E σ := rfl
@[go_sem ↓] theorem thenQ_ret : thenQ K Q .ret E σ = Q .ret E σ := rfl
@[go_sem ↓] theorem awpC_scope (c : Code) : awpC S (.scope c) Q E σ = awpC S c (scopeQ Q) E σ := by simp only [awpC]
@[go_sem ↓] theorem scopeQ_normal : scopeQ Q .normal E σ = Q .normal E σ := rfl
@[go_sem ↓] theorem scopeQ_ret : scopeQ Q .ret E σ = Q .ret E σ := rfl
@[go_sem ↓] theorem scopeQ_exit (id : Nat) : scopeQ Q (.exit id) E σ = Q (.exit id) E σ := rfl
@[go_sem ↓] theorem blockQ_normal (id : Nat) : blockQ id Q .normal E σ = Q .normal E σ := rfl
@[go_sem ↓] theorem blockQ_ret (id : Nat) : blockQ id Q .ret E σ = Q .ret E σ := rfl
@[go_sem ↓] theorem blockQ_exit (id id' : Nat) : blockQ id Q (.exit id') E σ = if id' = id then Q .normal E σ else Q (.exit id') E σ := by
  simp only [blockQ]; split <;> rfl
@[go_sem ↓] theorem regC_false : regC S false arr K E σ = opsC S false arr 0 arr.toList K E σ := rfl
def regT (K : Env → Store → Prop) (l : List Nat) (E : Env) (σ : Store) : Prop := K (killE (inL l) E) (killS (inL l) σ)
@[go_sem ↓] theorem regC_true : regC S true arr K E σ = regT (opsC S true arr 0 arr.toList K) (regL S arr.toList) E σ := rfl
@[go_sem ↓] theorem struckC_true (os : List Oper) : struckC S true os K E σ = regT K (regL S os) E σ := rfl
@[go_sem ↓] theorem struckC_false (os : List Oper) : struckC S false os K E σ = K E σ := rfl
@[go_sem] theorem regT_nil : regT K [] E σ = K E σ := by unfold regT; rw [killE_nil, killS_nil]
@[go_sem] theorem regT_cons (i : Nat) (l : List Nat) : regT K (i :: l) E σ = K (killE (inL (i :: l)) E) (killS (inL (i :: l)) σ) := rfl
@[go_sem] theorem regL_nil : regL S [] = [] := rfl
@[go_sem] theorem regL_cons (op : Op) (pos : String) (after : Array Edge) (g : Option (Nat × Bool)) : regL S ({ dst, op, type := ty, pos, after, guard := g } :: ops) = regN S.b (cls S.P op ty) dst (regL S ops) := rfl
section
variable (x y : Operand)
attribute [go_sem] cls
end
@[go_sem] theorem regN_0 (b : Nat) (l : List Nat) : regN b 0 dst l = l := rfl
@[go_sem] theorem regN_1 (b d : Nat) (l : List Nat) : regN b 1 (some d) l = (b + d) :: l := rfl
@[go_sem] theorem regN_2 (b d : Nat) (l : List Nat) : regN b 2 (some d) l = (b + d) :: l := rfl
@[go_sem] theorem regN_2' (b : Nat) (l : List Nat) : regN b 2 none l = (b + 99999) :: l := rfl
@[go_sem] theorem regN_3 (b : Nat) (l : List Nat) : regN b 3 dst l = l := rfl
@[go_sem] theorem regN_4 (b : Nat) (l : List Nat) : regN b 4 dst l = l := rfl
@[go_sem] theorem regN_5 (b : Nat) (l : List Nat) : regN b 5 dst l = l := rfl
@[go_sem ↓] theorem opsC_nil (i : Nat) : opsC S dr arr i [] K E σ = K E σ := rfl
@[go_sem ↓] theorem opsC_one_f (i : Nat) (op : Op) (pos : String) (after : Array Edge) : opsC S false arr i ({ dst, op, type := ty, pos, after, guard := none } :: ops) K E σ = aopC S true true dst op ty (opsC S false arr (i + 1) ops K) (opsC S false arr (i + 1) ops K) E σ := rfl
@[go_sem ↓] theorem opsC_one_t (i : Nat) (op : Op) (pos : String) (after : Array Edge) : opsC S true arr i ({ dst, op, type := ty, pos, after, guard := none } :: ops) K E σ = aopC S false (bar arr i) dst op ty (opsC S true arr (i + 1) ops K) (struckC S true ops (opsC S true arr (i + 1) ops K)) E σ := rfl
@[go_sem ↓] theorem opsC_guard_f (i : Nat) (op : Op) (pos : String) (after : Array Edge) (j : Nat) (want : Bool) : opsC S false arr i ({ dst, op, type := ty, pos, after, guard := some (j, want) } :: ops) K E σ =
    guardD S true true (dstAt arr.toList j) want dst op ty (opsC S false arr (i + 1) ops K) (opsC S false arr (i + 1) ops K) E σ := rfl
@[go_sem ↓] theorem opsC_guard_t (i : Nat) (op : Op) (pos : String) (after : Array Edge) (j : Nat) (want : Bool) : opsC S true arr i ({ dst, op, type := ty, pos, after, guard := some (j, want) } :: ops) K E σ =
    guardD S false (bar arr i) (dstAt arr.toList j) want dst op ty (opsC S true arr (i + 1) ops K) (struckC S true ops (opsC S true arr (i + 1) ops K)) E σ := rfl
@[go_sem] theorem dstAt_zero (op : Op) (pos : String) (after : Array Edge) (g : Option (Nat × Bool)) : dstAt ({ dst, op, type := ty, pos, after, guard := g } :: ops) 0 = dst := rfl
@[go_sem] theorem dstAt_succ (o : Oper) (n : Nat) : dstAt (o :: ops) (n + 1) = dstAt ops n := rfl
attribute [go_sem] guardD
@[go_sem] theorem guardC_t (b : Bool) (t : Nat) (op : Op) : guardC S kd bi (.v (.bool b)) true t dst op ty K Kb E σ = branch (b = true) (aopC S kd bi dst op ty K Kb) (upd E t (.v (.bool true))) K (updO (upd E t (.v (.bool false))) dst (.v undef)) σ := rfl
@[go_sem] theorem guardC_f (b : Bool) (t : Nat) (op : Op) : guardC S kd bi (.v (.bool b)) false t dst op ty K Kb E σ = branch (b = true) K (updO (upd E t (.v (.bool true))) dst (.v undef)) (aopC S kd bi dst op ty K Kb) (upd E t (.v (.bool false))) σ := rfl
@[go_sem] theorem guardC_tuple (vs : Array Value) (want : Bool) (t : Nat) (op : Op) : guardC S kd bi (.v (.tuple vs)) want t dst op ty K Kb E σ = K (updO E dst (.v undef)) σ := by cases want <;> rfl
@[go_sem] theorem undef_eq : undef = .tuple #[] := rfl
attribute [go_sem] condC
attribute [go_sem] updO_some updO_none
@[go_sem] theorem ev_tmp (t : Nat) : ev E (.tmp t) = E t := rfl
@[go_sem] theorem ev_const (x : Value) : ev E (.const x) = ofC x := rfl
@[go_sem] theorem ev_func (f : Nat) : ev E (.func f) = .clo f [] := rfl
@[go_sem] theorem ofC_int (k : IntKind) (n : Int) : ofC (.int k n) = .v (.int k n) := rfl
@[go_sem] theorem ofC_bool (b : Bool) : ofC (.bool b) = .v (.bool b) := rfl
@[go_sem] theorem ofC_string (b : ByteArray) : ofC (.string b) = .v (.string b) := rfl
@[go_sem] theorem ofC_pointer (a : Option Addr) : ofC (.pointer a) = .v (.pointer a) := rfl
@[go_sem] theorem ofC_slice (a : Option Addr) (n c : Nat) : ofC (.slice a n c) = .v (.slice a n c) := rfl
@[go_sem] theorem upd_at (d t : Nat) (a : AV) : upd E d a t = if t = d then a else E t := rfl
@[go_sem] theorem killE_at (p : Nat → Bool) (t : Nat) : killE p E t = (E t).kill p := rfl
@[go_sem] theorem kE_true (d : Nat) : kE true d E = killE (own d) E := rfl
@[go_sem] theorem kE_false (d : Nat) : kE false d E = E := rfl
@[go_sem] theorem kS_true (d : Nat) : kS true d σ = killS (own d) σ := rfl
@[go_sem] theorem kS_false (d : Nat) : kS false d σ = σ := rfl
@[go_sem] theorem killS_at (p : Nat → Bool) (t : Nat) : killS p σ t = if p t = true then none else (σ t).map (Blk.kill p) := rfl
@[go_sem] theorem updS_at (d t : Nat) (b : Blk) : updS σ d b t = if t = d then some b else σ t := rfl
@[go_sem] theorem addS_nil : addS σ [] = σ := rfl
@[go_sem] theorem addS_cons (id : Nat) (b : Blk) (l : List (Nat × Blk)) : addS σ ((id, b) :: l) = addS (updS σ id b) l := rfl
@[go_sem] theorem own_at (d i : Nat) : own d i = (i / 16 == d) := rfl
@[go_sem] theorem isId_at (d i : Nat) : isId d i = (i == d) := rfl
@[go_sem] theorem allB_at (i : Nat) : allB i = true := rfl
@[go_sem] theorem inL_at (l : List Nat) (i : Nat) : inL l i = l.contains (i / 16) := rfl
variable {p : Nat → Bool}
@[go_sem] theorem initE_at (args : List AV) (t : Nat) : initE args t = args.getD t (.v undef) := rfl
@[go_sem] theorem getD_zero (a d : AV) (l : List AV) : (a :: l).getD 0 d = a := rfl
@[go_sem] theorem getD_succ (a d : AV) (l : List AV) (n : Nat) : (a :: l).getD (n + 1) d = l.getD n d := rfl
@[go_sem] theorem getD_nil (d : AV) (n : Nat) : ([] : List AV).getD n d = d := rfl
@[go_sem] theorem kill_any : AV.kill p .any = .any := rfl
@[go_sem] theorem kill_v (x : Value) : AV.kill p (.v x) = .v x := rfl
@[go_sem] theorem kill_sl (s : Nat) (es : List AV) : AV.kill p (.sl s es) = .sl s es := rfl
@[go_sem] theorem kill_pt (e : AV) (j : Nat) : AV.kill p (.pt e j) = .pt e j := rfl
@[go_sem] theorem kill_own (id s i n : Nat) : AV.kill p (.own id s i n) = if p id = true then .any else .own id s i n := by
  unfold AV.kill AV.namesB AV.dk; split <;> simp_all
@[go_sem] theorem kill_ptr (id s i n : Nat) : AV.kill p (.ptr id s i n) = if p id = true then .any else .ptr id s i n := by
  unfold AV.kill AV.namesB AV.dk; split <;> simp_all
@[go_sem] theorem kill_yld (l : Nat) : AV.kill p (.yld l) = .yld l := rfl
@[go_sem] theorem kill_agg (cs : List AV) : AV.kill p (.agg cs) = if AV.namesL p cs = true then .agg (AV.dkL p cs) else .agg cs := rfl
@[go_sem] theorem kill_tup (cs : List AV) : AV.kill p (.tup cs) = if AV.namesL p cs = true then .tup (AV.dkL p cs) else .tup cs := rfl
@[go_sem] theorem kill_clo (f : Nat) (cs : List AV) : AV.kill p (.clo f cs) = if AV.namesL p cs = true then .clo f (AV.dkL p cs) else .clo f cs := rfl
@[go_sem] theorem kill_blk (e s : Nat) (es : List AV) : Blk.kill p ⟨e, s, es⟩ = if AV.namesL p es = true then ⟨e, s, AV.dkL p es⟩ else ⟨e, s, es⟩ := rfl
attribute [go_sem] AV.namesB AV.namesL AV.dk AV.dkL
attribute [go_sem] AV.cells_agg AV.cells_v AV.cells_sl AV.cells_own AV.cells_ptr AV.cells_pt AV.cells_clo AV.cells_any
@[go_sem] theorem ok_v (x : Value) : (AV.v x).ok = x.oneCell' := rfl
@[go_sem] theorem ok_agg (cs : List AV) : (AV.agg cs).ok = true := rfl
@[go_sem] theorem ok_sl (s : Nat) (es : List AV) : (AV.sl s es).ok = true := rfl
@[go_sem] theorem ok_pt (e : AV) (j : Nat) : (AV.pt e j).ok = true := rfl
@[go_sem] theorem ok_own (id s i n : Nat) : (AV.own id s i n).ok = true := rfl
@[go_sem] theorem ok_ptr (id s i n : Nat) : (AV.ptr id s i n).ok = true := rfl
@[go_sem] theorem ok_clo (f : Nat) (cs : List AV) : (AV.clo f cs).ok = true := rfl
@[go_sem] theorem one_int (k : IntKind) (n : Int) : (Value.int k n).oneCell' = true := rfl
@[go_sem] theorem one_bool (b : Bool) : (Value.bool b).oneCell' = true := rfl
@[go_sem] theorem one_string (b : ByteArray) : (Value.string b).oneCell' = true := rfl
@[go_sem] theorem one_slice (a : Option Addr) (n c : Nat) : (Value.slice a n c).oneCell' = true := rfl
@[go_sem ↓] theorem aop_move_t (x : Nat) : aopC S kd bi dst (.move (.tmp x)) ty K Kb E σ = putK dst K E σ (E x) := rfl
@[go_sem ↓] theorem aop_move_f (f : Nat) : aopC S kd bi dst (.move (.func f)) ty K Kb E σ = putK dst K E σ (.clo f []) := rfl
@[go_sem ↓] theorem aop_move_int (q : IntKind) (n : Int) : aopC S kd bi dst (.move (.const (.int q n))) ty K Kb E σ = putK dst K E σ (.v (.int q n)) := rfl
@[go_sem ↓] theorem aop_move_bool (b : Bool) : aopC S kd bi dst (.move (.const (.bool b))) ty K Kb E σ = putK dst K E σ (.v (.bool b)) := rfl
@[go_sem ↓] theorem aop_move_string (b : ByteArray) : aopC S kd bi dst (.move (.const (.string b))) ty K Kb E σ = putK dst K E σ (.v (.string b)) := rfl
@[go_sem ↓] theorem aop_move_agg (cs : Array Value) : aopC S kd bi dst (.move (.const (.agg cs))) ty K Kb E σ = putK dst K E σ (ofC (.agg cs)) := rfl
@[go_sem ↓] theorem aop_move_nilFunc : aopC S kd bi dst (.move (.const .nilFunc)) ty K Kb E σ = putK dst K E σ (.v .nilFunc) := rfl
@[go_sem ↓] theorem aop_move_nilIface : aopC S kd bi dst (.move (.const .nilIface)) ty K Kb E σ = putK dst K E σ (.v .nilIface) := rfl
@[go_sem ↓] theorem aop_move_map (m : Option Nat) : aopC S kd bi dst (.move (.const (.map m))) ty K Kb E σ = putK dst K E σ (ofC (.map m)) := rfl
@[go_sem ↓] theorem aop_move_ptr (a : Option Addr) : aopC S kd bi dst (.move (.const (.pointer a))) ty K Kb E σ = putK dst K E σ (.v (.pointer a)) := rfl
@[go_sem ↓] theorem aop_asg_t (x : Nat) : aopC S kd bi dst (.assign (.tmp x)) ty K Kb E σ = putK dst K E σ (E x) := rfl
@[go_sem ↓] theorem aop_asg_f (f : Nat) : aopC S kd bi dst (.assign (.func f)) ty K Kb E σ = putK dst K E σ (.clo f []) := rfl
@[go_sem ↓] theorem aop_asg_int (q : IntKind) (n : Int) : aopC S kd bi dst (.assign (.const (.int q n))) ty K Kb E σ = putK dst K E σ (.v (.int q n)) := rfl
@[go_sem ↓] theorem aop_asg_bool (b : Bool) : aopC S kd bi dst (.assign (.const (.bool b))) ty K Kb E σ = putK dst K E σ (.v (.bool b)) := rfl
@[go_sem ↓] theorem aop_asg_string (b : ByteArray) : aopC S kd bi dst (.assign (.const (.string b))) ty K Kb E σ = putK dst K E σ (.v (.string b)) := rfl
@[go_sem ↓] theorem aop_asg_agg (cs : Array Value) : aopC S kd bi dst (.assign (.const (.agg cs))) ty K Kb E σ = putK dst K E σ (ofC (.agg cs)) := rfl
@[go_sem ↓] theorem aop_asg_nilFunc : aopC S kd bi dst (.assign (.const .nilFunc)) ty K Kb E σ = putK dst K E σ (.v .nilFunc) := rfl
@[go_sem ↓] theorem aop_asg_nilIface : aopC S kd bi dst (.assign (.const .nilIface)) ty K Kb E σ = putK dst K E σ (.v .nilIface) := rfl
@[go_sem ↓] theorem aop_asg_map (m : Option Nat) : aopC S kd bi dst (.assign (.const (.map m))) ty K Kb E σ = putK dst K E σ (ofC (.map m)) := rfl
@[go_sem ↓] theorem aop_asg_ptr (a : Option Addr) : aopC S kd bi dst (.assign (.const (.pointer a))) ty K Kb E σ = putK dst K E σ (.v (.pointer a)) := rfl
def nilG (S : Sp) (kd : Bool) (q : Option TypeId) (dst : Option Nat) (K : Env → Store → Prop) (E : Env) (σ : Store) : Prop := match q, dst with
  | some e, some d => nilC S.P (S.b + d) (some e) (newK d K (kE kd (S.b + d) E) (kS kd (S.b + d) σ))
  | none, _ => putK dst K E σ (.v (.slice none 0 0))
  | _, _ => False
theorem nilG_eq : (match tel S.P ty with
    | some e => (match dst with
      | some d => nilC S.P (S.b + d) (some e) (newK d K (kE kd (S.b + d) E) (kS kd (S.b + d) σ))
      | none => False)
    | none => putK dst K E σ (.v (.slice none 0 0))) = nilG S kd (tel S.P ty) dst K E σ := by
  unfold nilG; cases tel S.P ty <;> cases dst <;> rfl
@[go_sem ↓] theorem aop_move_nil : aopC S kd bi dst (.move (.const (.slice none 0 0))) ty K Kb E σ = nilG S kd (tel S.P ty) dst K E σ := nilG_eq
@[go_sem ↓] theorem aop_asg_nil : aopC S kd bi dst (.assign (.const (.slice none 0 0))) ty K Kb E σ = nilG S kd (tel S.P ty) dst K E σ := nilG_eq
@[go_sem] theorem nilG_some (e : TypeId) (d : Nat) : nilG S kd (some e) (some d) K E σ = newK d K (kE kd (S.b + d) E) (kS kd (S.b + d) σ) (.own (16 * (S.b + d)) (tsz S.P e) 0 0) [(16 * (S.b + d), ⟨e, tsz S.P e, []⟩)] := rfl
@[go_sem] theorem nilG_none : nilG S kd none dst K E σ = putK dst K E σ (.v (.slice none 0 0)) := rfl
@[go_sem] theorem newK_eq (d : Nat) (v : AV) (bl : List (Nat × Blk)) : newK d K E σ v bl = K (upd E d v) (addS σ bl) := rfl
@[go_sem ↓] theorem aop_pick (c x y : Operand) : aopC S kd bi dst (.pick c x y) ty K Kb E σ = pickC (ev E c) (ev E x) (ev E y) (putK dst K E σ) := rfl
@[go_sem ↓] theorem aop_load (n : Nat) : aopC S kd bi dst (.load t (.tmp n)) ty K Kb E σ = loadC S.P σ t (E n) (putK dst K E σ) := rfl
@[go_sem ↓] theorem aop_load_g (n : Nat) : aopC S kd bi dst (.load t (.global n)) ty K Kb E σ = semD S dst (.load t (.global n)) ty Kb E σ := rfl
@[go_sem ↓] theorem aop_nilCheck (x : Operand) : aopC S kd bi dst (.nilCheck x) ty K Kb E σ = nilchkC (ev E x) (putK dst K E σ) := rfl
def binG (S : Sp) (dst : Option Nat) (op : BinOp) (t : TypeId) (x y : Operand) (t' ty : TypeId) (q : Bool) (K Kb : Env → Store → Prop) (E : Env) (σ : Store) : Prop := match q with
  | true => semD S dst (.binOp op t x y t') ty Kb E σ
  | false => binC S.P op t (ev E x) (ev E y) (putK dst K E σ)
@[go_sem ↓] theorem aop_binOp (op : BinOp) (x y : Operand) (t' : TypeId) : aopC S kd bi dst (.binOp op t x y t') ty K Kb E σ = binG S dst op t x y t' ty (tpt S.P t) K Kb E σ := by
  show restA S dst (.binOp op t x y t') ty (if tpt S.P t then 5 else 0) K Kb E σ = _
  unfold binG
  cases tpt S.P t <;> rfl
attribute [go_sem] binG
@[go_sem ↓] theorem aop_build (parts : Array (Nat × Operand)) : aopC S kd bi dst (.build t parts) ty K Kb E σ = buildC S.P (tzA S.P t) (tfld S.P t) (tarr S.P t) (parts.toList.map fun p => (p.1, ev E p.2)) (putK dst K E σ) := rfl
@[go_sem ↓] theorem aop_unOp (op : UnOp) (x : Operand) : aopC S kd bi dst (.unOp op t x) ty K Kb E σ = unC op (ev E x) (putK dst K E σ) := rfl
def convG (S : Sp) (dst : Option Nat) (t t' : TypeId) (x : Operand) (ty : TypeId) (q : Option IntKind) (K Kb : Env → Store → Prop) (E : Env) (σ : Store) : Prop := match q with
  | some k => convC (tund S.P t) (some k) (ev E x) (putK dst K E σ)
  | none => semD S dst (.convert t t' x) ty Kb E σ
@[go_sem ↓] theorem aop_convert (t' : TypeId) (x : Operand) : aopC S kd bi dst (.convert t t' x) ty K Kb E σ = convG S dst t t' x ty (tint S.P t') K Kb E σ := by
  show restA S dst (.convert t t' x) ty (if (tint S.P t').isSome then 0 else 5) K Kb E σ = _
  unfold convG
  cases h : tint S.P t' with
  | none => rfl
  | some k => show convC (tund S.P t) (tint S.P t') _ _ = _; rw [h]
attribute [go_sem] convG
@[go_sem ↓] theorem aop_makeFunc (f : FuncId) (first cs : Array Operand) : aopC S kd bi dst (.makeFunc (.func f) first cs) ty K Kb E σ = makeFuncC f first.toList (cs.toList.map (ev E)) (first.toList.map (ev E)) (putK dst K E σ) := rfl
attribute [go_sem] makeFuncC
@[go_sem] theorem headOK_nil : headOK [] = true := rfl
@[go_sem] theorem headOK_pt (e : AV) (j : Nat) (l : List AV) : headOK (.pt e j :: l) = true := rfl
@[go_sem] theorem headOK_ptr (a b c d : Nat) (l : List AV) : headOK (.ptr a b c d :: l) = true := rfl
@[go_sem] theorem headOK_own (a b c d : Nat) (l : List AV) : headOK (.own a b c d :: l) = true := rfl
@[go_sem] theorem headOK_sl (s : Nat) (es : List AV) (l : List AV) : headOK (.sl s es :: l) = true := rfl
@[go_sem] theorem headOK_clo (g : Nat) (cs : List AV) (l : List AV) : headOK (.clo g cs :: l) = true := rfl
@[go_sem] theorem headOK_yld (i : Nat) (l : List AV) : headOK (.yld i :: l) = true := rfl
@[go_sem] theorem headOK_agg (cs : List AV) (l : List AV) : headOK (.agg cs :: l) = true := rfl
@[go_sem] theorem headOK_nptr (e z : Nat) (cs : List AV) (l : List AV) : headOK (.nptr e z cs :: l) = true := rfl
@[go_sem] theorem headOK_new (e z : Nat) (cs : List AV) (l : List AV) : headOK (.new e z cs :: l) = true := rfl
@[go_sem] theorem headOK_v (x : Value) (l : List AV) : headOK (.v x :: l) = x.oneCell' := rfl
@[go_sem] theorem headOK_mp (es : List AV) (l : List AV) : headOK (.mp es :: l) = true := rfl
@[go_sem] theorem headOK_mref (i : Nat) (l : List AV) : headOK (.mref i :: l) = true := rfl
def fldAC (P : Program) (q : Option (List (Nat × TypeId))) (f : Nat) (a : AV) (K : AV → Prop) : Prop := match q, a with
  | some fs, .pt e j => fldB P fs[f]? (.pt e j) K
  | some fs, .ptr id s i j => fldB P fs[f]? (.ptr id s i j) K
  | _, _ => False
def fldVC (P : Program) (q : Option (List (Nat × TypeId))) (f : Nat) (a : AV) (K : AV → Prop) : Prop := match q, a with
  | some fs, .agg cs => fldB P fs[f]? (.agg cs) K
  | _, _ => False
@[go_sem ↓] theorem aop_fieldAddr (x : Operand) (f : Nat) : aopC S kd bi dst (.fieldAddr t x f) ty K Kb E σ = fldAC S.P (tfld S.P t) f (ev E x) (putK dst K E σ) := by
  show ((match ev E x with | .agg _ => False | _ => True) ∧ fldC S.P (tfld S.P t) f (ev E x) _) = _
  unfold fldC fldAC
  cases tfld S.P t with
  | none => simp
  | some fs => cases ev E x <;> simp [fldB] <;> (split <;> simp_all)
@[go_sem ↓] theorem aop_field (x : Operand) (f : Nat) : aopC S kd bi dst (.field t x f) ty K Kb E σ = fldVC S.P (tfld S.P t) f (ev E x) (putK dst K E σ) := by
  show ((match ev E x with | .agg _ => True | _ => False) ∧ fldC S.P (tfld S.P t) f (ev E x) _) = _
  unfold fldC fldVC
  cases tfld S.P t with
  | none => simp
  | some fs => cases ev E x <;> simp
attribute [go_sem] fldAC
attribute [go_sem] fldVC
attribute [go_sem] fldB
@[go_sem ↓] theorem aop_indexAddr (x i : Operand) : aopC S kd bi dst (.indexAddr t x i) ty K Kb E σ = idxAddrC S.P t (ev E x) (ev E i) (putK dst K E σ) := rfl
@[go_sem ↓] theorem aop_index (x i : Operand) : aopC S kd bi dst (.index t x i) ty K Kb E σ = idxC S.P t (ev E x) (ev E i) (putK dst K E σ) := rfl
@[go_sem ↓] theorem aop_extract (x : Operand) (i : Nat) : aopC S kd bi dst (.extract x i) ty K Kb E σ = extC (ev E x) i (putK dst K E σ) := rfl
def sliG (S : Sp) (dst : Option Nat) (t : TypeId) (x : Operand) (lo hi : Option Operand) (ty : TypeId) (q : Option (Nat × TypeId)) (K Kb : Env → Store → Prop) (E : Env) (σ : Store) : Prop := match q with
  | some _ => semD S dst (.slice t x lo hi none) ty Kb E σ
  | none => cutE S.P (tel S.P t) (tstr S.P t) (ev E x) (boundA E lo 0) (boundA E hi (lenN (ev E x))) (putK dst K E σ)
@[go_sem ↓] theorem aop_slice (x : Operand) (lo hi : Option Operand) : aopC S kd bi dst (.slice t x lo hi none) ty K Kb E σ = sliG S dst t x lo hi ty (tarr S.P t) K Kb E σ := by
  show restA S dst (.slice t x lo hi none) ty (if (tarr S.P t).isSome then 5 else 0) K Kb E σ = _
  unfold sliG
  cases tarr S.P t <;> rfl
@[go_sem ↓] theorem aop_slice3 (x : Operand) (lo hi : Option Operand) (m : Operand) : aopC S kd bi dst (.slice t x lo hi (some m)) ty K Kb E σ = semD S dst (.slice t x lo hi (some m)) ty Kb E σ := rfl
attribute [go_sem] sliG
@[go_sem ↓] theorem aop_len (x : Operand) : aopC S kd bi dst (.call { callee := .builtin .len, args := #[x], argTypes := #[t] }) ty K Kb E σ = lenC (tstr S.P t) (tel S.P t) (ev E x) (putK dst K E σ) := rfl
@[go_sem ↓] theorem aop_max (args : Array Operand) (ats : Array TypeId) : aopC S kd bi dst (.call { callee := .builtin .max, args, argTypes := ats }) ty K Kb E σ = maxC (args.toList.map (ev E)) (putK dst K E σ) := rfl
@[go_sem ↓] theorem aop_sld (args : Array Operand) (ats : Array TypeId) : aopC S kd bi dst (.call { callee := .builtin .unsafeSliceData, args, argTypes := ats }) ty K Kb E σ = sldC (args.toList.map (ev E)) (putK dst K E σ) := rfl
attribute [go_sem] sldC
@[go_sem ↓] theorem aop_min (args : Array Operand) (ats : Array TypeId) : aopC S kd bi dst (.call { callee := .builtin .min, args, argTypes := ats }) ty K Kb E σ = minC (args.toList.map (ev E)) (putK dst K E σ) := rfl
@[go_sem ↓] theorem aop_call (f : Operand) (args : Array Operand) (ats : Array TypeId) : aopC S kd bi dst (.call { callee := .value f, args, argTypes := ats }) ty K Kb E σ =
    callF S kd bi (S.b + dst.getD 99999) (ev E f) (args.toList.map (ev E)) dst K Kb E σ (kE kd (S.b + dst.getD 99999) E) (kS kd (S.b + dst.getD 99999) σ) (args.toList.map (ev (kE kd (S.b + dst.getD 99999) E))) (ev (kE kd (S.b + dst.getD 99999) E) f)
      (semD S dst (.call { callee := .value f, args, argTypes := ats }) ty Kb E σ) := rfl
@[go_sem ↓] theorem aop_append (d : Nat) (args : Array Operand) (ats : Array TypeId) : aopC S kd bi (some d) (.call { callee := .builtin .append, args, argTypes := ats }) ty K Kb E σ =
    appC S.P args.toList ats.toList E σ fun id sz n k => need (S.pin id = false) (appK d Kb E σ id sz n k) := rfl
@[go_sem ↓] theorem aop_store (x y : Operand) : aopC S kd bi dst (.store t x y) ty K Kb E σ = storeC S.P t (ev E x) (ev E y) dst Kb E σ := rfl
@[go_sem ↓] theorem aop_alloc (d : Nat) : aopC S kd bi (some d) (.alloc t) ty K Kb E σ = allocC S.P (S.b + d) t (tel S.P t) (tsz S.P t) (tzA S.P t) (newK d K (kE kd (S.b + d) E) (kS kd (S.b + d) σ)) := rfl
@[go_sem ↓] theorem aop_box (d : Nat) (x : Operand) : aopC S kd bi (some d) (.box t x) ty K Kb E σ = boxC (S.b + d) t (tsz S.P t) (ev (kE kd (S.b + d) E) x) (newK d K (kE kd (S.b + d) E) (kS kd (S.b + d) σ)) := rfl
@[go_sem ↓] theorem aop_buildSlice (d len : Nat) (parts : Array (Nat × Operand)) : aopC S kd bi (some d) (.buildSlice t len parts) ty K Kb E σ =
    bsliceC S.P (S.b + d) (tel S.P t) len (parts.toList.map (·.1)) (parts.toList.map fun p => ev (kE kd (S.b + d) E) p.2) (newK d K (kE kd (S.b + d) E) (kS kd (S.b + d) σ)) := rfl
@[go_sem ↓] theorem aop_makeSlice (d : Nat) (l c : Operand) : aopC S kd bi (some d) (.makeSlice t l c) ty K Kb E σ = msliceC S.P (S.b + d) (tel S.P t) (ev (kE kd (S.b + d) E) l) (ev (kE kd (S.b + d) E) c) (newK d K (kE kd (S.b + d) E) (kS kd (S.b + d) σ)) := rfl
@[go_sem] theorem semD_mk (op : Op) (h : semD S dst op ty Kb E σ) : semD S dst op ty Kb E σ = True := by simp [h]
@[go_sem] theorem pickC_t (a b : AV) : pickC (.v (.bool true)) a b k = k a := rfl
@[go_sem] theorem pickC_f (a b : AV) : pickC (.v (.bool false)) a b k = k b := rfl
@[go_sem] theorem pickC_bool (c a b : Bool) : pickC (.v (.bool c)) (.v (.bool a)) (.v (.bool b)) k = k (.v (.bool (if c = true then a else b))) := by cases c <;> rfl
@[go_sem] theorem pickC_int (c : Bool) (q : IntKind) (a b : Int) : pickC (.v (.bool c)) (.v (.int q a)) (.v (.int q b)) k = k (.v (.int q (if c = true then a else b))) := by cases c <;> rfl
attribute [go_sem] loadC
attribute [go_sem] loadB
@[go_sem] theorem loadE_some (e : AV) (j : Nat) : loadE P t (some e) j k = partC P t e.cells j k := rfl
@[go_sem] theorem partC_eq (cs : List AV) (off : Nat) : partC P t cs off k = partA (tagg P t) (tsz P t) cs off k := rfl
attribute [go_sem] partA
attribute [go_sem] nilchkC
attribute [go_sem] binC
attribute [go_sem] intC strC
attribute [go_sem] aggC
attribute [go_sem] eqlC
@[go_sem] theorem eqK_nil : eqK [] [] [] = some true := rfl
@[go_sem] theorem eqK_int (ks : List Nat) (q : IntKind) (a b : Int) (r s : List AV) : eqK (0 :: ks) (.v (.int q a) :: r) (.v (.int q b) :: s) = (eqK ks r s).map ((a == b) && ·) := by simp [eqK]
@[go_sem] theorem eqK_bool (ks : List Nat) (a b : Bool) (r s : List AV) : eqK (1 :: ks) (.v (.bool a) :: r) (.v (.bool b) :: s) = (eqK ks r s).map ((a == b) && ·) := rfl
@[go_sem] theorem eqK_str (ks : List Nat) (a b : ByteArray) (r s : List AV) : eqK (2 :: ks) (.v (.string a) :: r) (.v (.string b) :: s) = (eqK ks r s).map ((a.toList == b.toList) && ·) := rfl
attribute [go_sem] Option.map_some Bool.and_true
attribute [go_sem] buildC
attribute [go_sem] buildB
attribute [go_sem] fillK
def fillB (place : Nat → Option (Nat × Nat)) (cs : List AV) (v : AV) (rest : List (Nat × AV)) (o : Option (Nat × Nat)) : Option (List AV) := match o with
  | none => none
  | some (off, size) => if v.cells.length = size ∧ off + size ≤ cs.length ∧ v.ok = true then fillA place (cs.take off ++ v.cells ++ cs.drop (off + size)) rest else none
@[go_sem] theorem fillA_nil (place : Nat → Option (Nat × Nat)) (cs : List AV) : fillA place cs [] = some cs := rfl
@[go_sem] theorem fillA_cons (place : Nat → Option (Nat × Nat)) (cs : List AV) (i : Nat) (v : AV) (rest : List (Nat × AV)) : fillA place cs ((i, v) :: rest) = fillB place cs v rest (place i) := by
  simp only [fillA, fillB]; cases place i <;> rfl
@[go_sem] theorem fillB_some (place : Nat → Option (Nat × Nat)) (cs : List AV) (v : AV) (rest : List (Nat × AV)) (off size : Nat) : fillB place cs v rest (some (off, size)) =
    if v.cells.length = size ∧ off + size ≤ cs.length ∧ v.ok = true then fillA place (cs.take off ++ v.cells ++ cs.drop (off + size)) rest else none := rfl
attribute [go_sem] placeF placeE
attribute [go_sem] unC
attribute [go_sem] convC
attribute [go_sem] idxAddrC
attribute [go_sem] idxP
attribute [go_sem] idxC
attribute [go_sem] idxG
attribute [go_sem] boundA
attribute [go_sem] lenN
attribute [go_sem] cutE
attribute [go_sem] lenC
attribute [go_sem] maxC
attribute [go_sem] minC
attribute [go_sem] extC
attribute [go_sem] allocC
@[go_sem] theorem boxC_eq (d s : Nat) (x : AV) : boxC d t s x kn = needN (x.ok = true ∧ x.cells.length = s ∧ s ≠ 0) kn (.ptr (16 * d) s 0 0) [(16 * d, ⟨t, s, [x]⟩)] := rfl
def bsliceB (d e s : Nat) (z : Option AV) (len : Nat) (is : List Nat) (xs : List AV) (K : AV → List (Nat × Blk) → Prop) : Prop := match z with
  | some z => needN (0 < s ∧ z.ok = true ∧ z.cells.length = s ∧ len * s ≤ 16777216 ∧ is = List.range len ∧ allOK s xs = true) K (.own (16 * d) s 0 len) [(16 * d, ⟨e, s, xs⟩)]
  | none => False
@[go_sem] theorem bsliceC_some (d e len : Nat) (is : List Nat) (xs : List AV) : bsliceC P d (some e) len is xs kn = bsliceB d e (tsz P e) (tzA P e) len is xs kn := rfl
attribute [go_sem] bsliceB
def msliceB (P : Program) (d e s : Nat) (z : Option AV) (n m : Int) (K : AV → List (Nat × Blk) → Prop) : Prop := match z with
  | some z => needN (0 < s ∧ z.ok = true ∧ z.cells.length = s ∧ 0 ≤ n ∧ n ≤ m ∧ m * (tby P e : Int) ≤ 281474976710656 ∧ m ≤ 4611686018427387904) K (.own (16 * d) s 0 n.toNat) [(16 * d, ⟨e, s, List.replicate n.toNat z⟩)]
  | none => False
@[go_sem] theorem msliceC_some (d e : Nat) (q q' : IntKind) (n m : Int) : msliceC P d (some e) (.v (.int q n)) (.v (.int q' m)) kn = msliceB P d e (tsz P e) (tzA P e) n m kn := rfl
attribute [go_sem] msliceB
@[go_sem] theorem allOK_nil (s : Nat) : allOK s [] = true := rfl
@[go_sem] theorem allOK_cons (s : Nat) (x : AV) (xs : List AV) : allOK s (x :: xs) = (x.ok && x.cells.length == s && allOK s xs) := rfl
attribute [go_sem] appC
def appB (P : Program) (e : TypeId) (id s n : Nat) (b : Option Blk) (z : Option AV) (s' : Nat) (xs : List AV) (K : Nat → Nat → Nat → Blk → Prop) : Prop := match b, z with
  | some b, some z => needA (0 < tsz P e ∧ z.ok = true ∧ z.cells.length = tsz P e ∧ s = tsz P e ∧ b.sz = s ∧ b.e = e ∧ n ≤ b.es.length ∧ s' = s ∧ allOK s xs = true ∧ (n + xs.length) * tby P e ≤ 140737488355328 ∧ n + xs.length ≤ 4611686018427387904) K
        id s (n + xs.length) ⟨e, s, b.es.take n ++ xs⟩
  | _, _ => False
@[go_sem] theorem appA_own (e id s n s' : Nat) (xs : List AV) : appA P (some e) (.own id s 0 n) σ (some (s', xs)) ka = appB P e id s n (σ id) (tzA P e) s' xs ka := rfl
attribute [go_sem] appB
attribute [go_sem] appT
@[go_sem] theorem srcC_str (s : ByteArray) : srcC σ (.v (.string s)) = some (1, (bI s).map Y) := rfl
@[go_sem] theorem srcC_sl (s : Nat) (es : List AV) : srcC σ (.sl s es) = some (s, es) := rfl
def srcB (b : Option Blk) (s i n : Nat) : Option (Nat × List AV) := b.bind fun b => if b.sz = s ∧ i + n ≤ b.es.length then some (s, (b.es.drop i).take n) else none
@[go_sem] theorem srcC_own (id s i n : Nat) : srcC σ (.own id s i n) = srcB (σ id) s i n := rfl
@[go_sem] theorem srcB_some (b : Blk) (s i n : Nat) : srcB (some b) s i n = if b.sz = s ∧ i + n ≤ b.es.length then some (s, (b.es.drop i).take n) else none := rfl
@[go_sem] theorem appK_eq (d id s n : Nat) (b : Blk) : appK d K E σ id s n b = K (upd (killE (isId id) E) d (.own id s 0 n)) (updS (killS (isId id) σ) id (b.kill (isId id))) := rfl
attribute [go_sem] storeC
attribute [go_sem] stoB
@[go_sem] theorem stoE_some (b : Blk) (e : AV) (id s i j : Nat) (v : AV) : stoE P t b (some e) id s i j v K E σ =
    needS (b.sz = s ∧ v.ok = true ∧ v.cells.length = tsz P t ∧ 0 < tsz P t ∧ j + tsz P t ≤ s) K E (updS σ id ⟨b.e, b.sz, b.es.set i (setC e j v)⟩) := rfl
@[go_sem] theorem setC_eq (e : AV) (j : Nat) (v : AV) : setC e j v = if j = 0 ∧ v.cells.length = e.cells.length then v else .agg (e.cells.take j ++ v.cells ++ e.cells.drop (j + v.cells.length)) := rfl
attribute [go_sem] callF
attribute [go_sem] headC
@[go_sem] theorem impK_pair (v : AV) (bl : List (Nat × Blk)) : impK (v, bl) dst K E σ = K (updO E dst v) (addS σ bl) := rfl
@[go_sem] theorem yldK_eq (v g : AV) : yldK S dst K E σ v g = K (updO (upd E S.N g) dst v) σ := rfl
theorem callC_mk {d g : Nat} {b : Bool} {as : List AV} (r : AV) (h : Ev S.P g as r) (h1 : b = false ∨ r.flat = true) (h2 : rlen r ≤ 16) (h4 : kd = true ∨ r.dn = false) (h3 : impK (imp (16 * d) r) dst K E σ) : callC S kd bi d g b as dst K E σ L := .inl ⟨r, h, h1, h2, h4, h3⟩
theorem callC_sem {d g : Nat} {b : Bool} {as : List AV} (h : bi = true) (hl : L) : callC S kd bi d g b as dst K E σ L := .inr ⟨h, hl⟩
theorem branch_mk {c : Prop} {X Y : Env → Store → Prop} {E' : Env} (h : c → X E σ) (h' : ¬ c → Y E' σ) : branch c X E Y E' σ := ⟨h, h'⟩
theorem branch_l {c : Prop} {X Y : Env → Store → Prop} {E' : Env} (hc : c) (h : X E σ) : branch c X E Y E' σ := ⟨fun _ => h, fun hn => absurd hc hn⟩
theorem branch_r {c : Prop} {X Y : Env → Store → Prop} {E' : Env} (hc : ¬ c) (h : Y E' σ) : branch c X E Y E' σ := ⟨fun hn => absurd hn hc, fun _ => h⟩
attribute [go_sem] imp impL imp1 rlen AV.flat AV.flatL
section
variable {f : AV → AV}
@[go_sem] theorem res_v (x : Value) : res σ (.v x) = .v x := rfl
@[go_sem] theorem res_sl (s : Nat) (es : List AV) : res σ (.sl s es) = .sl s es := rfl
@[go_sem] theorem res_pt (e : AV) (j : Nat) : res σ (.pt e j) = .pt e j := rfl
@[go_sem] theorem res_any : res σ .any = .any := rfl
@[go_sem] theorem res_mp (es : List AV) : res σ (.mp es) = .mp es := rfl
@[go_sem] theorem res_own (id s i n : Nat) : res σ (.own id s i n) = resOwn (resF 7 σ) (σ id) s i n := rfl
@[go_sem] theorem res_ptr (id s i n : Nat) : res σ (.ptr id s i n) = resPtr (resF 7 σ) (σ id) s i n := rfl
@[go_sem] theorem res_mref (id : Nat) : res σ (.mref id) = resMap (resF 7 σ) (σ id) := rfl
@[go_sem] theorem res_agg (cs : List AV) : res σ (.agg cs) = .agg (resL (resF 7 σ) cs) := rfl
@[go_sem] theorem res_tup (cs : List AV) : res σ (.tup cs) = .tup (resL (resF 7 σ) cs) := rfl
@[go_sem] theorem res_clo (g : Nat) (cs : List AV) : res σ (.clo g cs) = .clo g (resL (resF 7 σ) cs) := rfl
variable {n : Nat}
@[go_sem] theorem resF_v (x : Value) : resF (n + 1) σ (.v x) = .v x := rfl
@[go_sem] theorem resF_sl (s : Nat) (es : List AV) : resF (n + 1) σ (.sl s es) = .sl s es := rfl
@[go_sem] theorem resF_pt (e : AV) (j : Nat) : resF (n + 1) σ (.pt e j) = .pt e j := rfl
@[go_sem] theorem resF_any : resF (n + 1) σ .any = .any := rfl
@[go_sem] theorem resF_mp (es : List AV) : resF (n + 1) σ (.mp es) = .mp es := rfl
@[go_sem] theorem resF_own (id s i m : Nat) : resF (n + 1) σ (.own id s i m) = resOwn (resF n σ) (σ id) s i m := rfl
@[go_sem] theorem resF_ptr (id s i m : Nat) : resF (n + 1) σ (.ptr id s i m) = resPtr (resF n σ) (σ id) s i m := rfl
@[go_sem] theorem resF_mref (id : Nat) : resF (n + 1) σ (.mref id) = resMap (resF n σ) (σ id) := rfl
@[go_sem] theorem resF_agg (cs : List AV) : resF (n + 1) σ (.agg cs) = .agg (resL (resF n σ) cs) := rfl
@[go_sem] theorem resF_tup (cs : List AV) : resF (n + 1) σ (.tup cs) = .tup (resL (resF n σ) cs) := rfl
@[go_sem] theorem resF_clo (g : Nat) (cs : List AV) : resF (n + 1) σ (.clo g cs) = .clo g (resL (resF n σ) cs) := rfl
@[go_sem] theorem resL_eq (cs : List AV) : resL f cs = if AV.namesL allB cs = true then cs.map f else cs := rfl
attribute [go_sem] resOwn
attribute [go_sem] resPtr
attribute [go_sem] resE
attribute [go_sem] resMap
end
theorem full_pos (s : Nat) (es : List AV) : (AV.full (.sl s es) = true) = (0 < es.length) := by cases es <;> simp [AV.full]
theorem full_pos' (id s i n : Nat) : (AV.full (.own id s i n) = true) = (0 < n) := by cases n <;> simp [AV.full]
@[go_sem] theorem nilC2_eql_sl (s : Nat) (es : List AV) (q : Option TypeId) (k : AV → Prop) : nilC2 .eql (.sl s es) q k = needV (0 < es.length ∧ q.isSome = true) k (.v (.bool false)) := by simp only [nilC2, full_pos]
@[go_sem] theorem nilC2_neq_sl (s : Nat) (es : List AV) (q : Option TypeId) (k : AV → Prop) : nilC2 .neq (.sl s es) q k = needV (0 < es.length ∧ q.isSome = true) k (.v (.bool true)) := by simp only [nilC2, full_pos]
@[go_sem] theorem nilC2_eql_own (id s i n : Nat) (q : Option TypeId) (k : AV → Prop) : nilC2 .eql (.own id s i n) q k = needV (0 < n ∧ q.isSome = true) k (.v (.bool false)) := by simp only [nilC2, full_pos']
@[go_sem] theorem nilC2_neq_own (id s i n : Nat) (q : Option TypeId) (k : AV → Prop) : nilC2 .neq (.own id s i n) q k = needV (0 < n ∧ q.isSome = true) k (.v (.bool true)) := by simp only [nilC2, full_pos']
def rvC (P : Program) (E : Env) (σ : Store) : List ResultVar → List AV → (List AV → Prop) → Prop
  | [], vs, K => K vs
  | .tmp t :: r, vs, K => rvC P E σ r (vs ++ [E t]) K
  | .cell t ty :: r, vs, K => loadC P σ ty (E t) fun v => rvC P E σ r (vs ++ [v]) K
theorem cellsAt_mono {σ : Store} {a : AV} {K K' : List AV → Nat → Prop} (hK : ∀ cs j, K cs j → K' cs j) (h : cellsAt σ a K) : cellsAt σ a K' := by
  unfold cellsAt at *
  split at h
  · exact hK _ _ h
  · obtain ⟨k, h1, h2, e, h3, h4⟩ := h; exact ⟨k, h1, h2, e, h3, hK _ _ h4⟩
  · exact h.elim
theorem rvals_mono {σ : Store} : ∀ (l : List ResultVar) {K K' : List AV → Prop}, (∀ vs, K vs → K' vs) → rvals P E σ l K → rvals P E σ l K'
  | [], _, _, hK, h => hK _ h
  | .tmp t :: r, _, _, hK, h => rvals_mono r (fun _ hk => hK _ hk) h
  | .cell t ty :: r, _, _, hK, h => cellsAt_mono (fun _ _ ⟨v, hv, hr⟩ => ⟨v, hv, rvals_mono r (fun _ hk => hK _ hk) hr⟩) h
theorem rvC_of {σ : Store} : ∀ (l : List ResultVar) (vs : List AV) {K : List AV → Prop}, rvC P E σ l vs K → rvals P E σ l fun ws => K (vs ++ ws)
  | [], vs, K, h => by simpa [rvals, rvC] using h
  | .tmp t :: r, vs, K, h => by
    have := rvC_of r (vs ++ [E t]) h
    simpa [rvals] using this
  | .cell t ty :: r, vs, K, h => by
    obtain ⟨v, hv, hk⟩ := loadC_cells h
    have := rvC_of r (vs ++ [v]) hk
    refine cellsAt_mono (fun cs j hp => ⟨v, hp, rvals_mono r (fun ws hw => ?_) this⟩) hv
    simpa using hw
@[go_sem] theorem rvC_nil (vs : List AV) (K : List AV → Prop) : rvC P E σ [] vs K = K vs := rfl
@[go_sem] theorem rvC_tmp (t : Nat) (r : List ResultVar) (vs : List AV) (K : List AV → Prop) : rvC P E σ (.tmp t :: r) vs K = rvC P E σ r (vs ++ [E t]) K := rfl
@[go_sem] theorem rvC_cell (t : Nat) (ty : TypeId) (r : List ResultVar) (vs : List AV) (K : List AV → Prop) : rvC P E σ (.cell t ty :: r) vs K = loadC P σ ty (E t) fun v => rvC P E σ r (vs ++ [v]) K := rfl
def retC (S : Sp) (fn : Func) (r : AV) : Exit → Env → Store → Prop
  | .normal => fun E σ => rvC S.P E σ fn.results.toList [] (retK σ fun r' => r' = r)
  | .ret => fun E σ => rvC S.P E σ fn.results.toList [] (retK σ fun r' => r' = r)
  | _ => fun _ _ => False
@[go_sem ↓] theorem retC_normal (fn : Func) (r : AV) : retC S fn r .normal E σ = rvC S.P E σ fn.results.toList [] (retK σ fun r' => r' = r) := rfl
@[go_sem ↓] theorem retC_ret (fn : Func) (r : AV) : retC S fn r .ret E σ = rvC S.P E σ fn.results.toList [] (retK σ fun r' => r' = r) := rfl
theorem retC_of (fn : Func) (r : AV) (e : Exit) (E : Env) (σ : Store) (h : retC S fn r e E σ) : retG S.P fn (fun vs _ σ => retK σ (· = r) vs) e E σ := by
  cases e <;> first | exact h.elim | exact rvC_of _ _ h
def expAll (σ : Store) (p : Nat → Bool) : List AV → Prop
  | [] => True
  | v :: r => expOK1 σ p v ∧ expAll σ p r
theorem expAll_iff (p : Nat → Bool) (vs : List AV) : (∀ v ∈ vs, expOK1 σ p v) ↔ expAll σ p vs := by
  induction vs with
  | nil => simp [expAll]
  | cons v vs ih => simp [expAll, ← ih]
variable {R : AV → Prop}
theorem topP_nil {vs : List AV} (h : topIds vs = []) : topP vs = inL [] := by funext i; simp [topP, h, inL]
theorem namesB_nil (a : AV) : AV.namesB (inL []) a = false := by rw [inL_nil]; exact AV.namesB_none a
@[go_sem] theorem retK_v (x : Value) : retK σ R [.v x] = R (.v x) := by
  simp only [retK, expOK, topIds, AV.single, expo, topP_nil (vs := [.v x]) rfl, killS_nil, res_v, eq_iff_iff, true_and]
  refine ⟨fun h => h.2, fun h => ⟨⟨by simp, fun v hv => ?_⟩, h⟩⟩
  simp only [List.mem_singleton] at hv; subst hv; rfl
@[go_sem] theorem retK_sl (s : Nat) (es : List AV) : retK σ R [.sl s es] = R (.sl s es) := by
  simp only [retK, expOK, topIds, AV.single, expo, topP_nil (vs := [.sl s es]) rfl, killS_nil, res_sl, eq_iff_iff, true_and]
  refine ⟨fun h => h.2, fun h => ⟨⟨by simp, fun v hv => ?_⟩, h⟩⟩
  simp only [List.mem_singleton] at hv; subst hv; rfl
@[go_sem] theorem retK_pt (e : AV) (j : Nat) : retK σ R [.pt e j] = R (.pt e j) := by
  simp only [retK, expOK, topIds, AV.single, expo, topP_nil (vs := [.pt e j]) rfl, killS_nil, res_pt, eq_iff_iff, true_and]
  refine ⟨fun h => h.2, fun h => ⟨⟨by simp, fun v hv => ?_⟩, h⟩⟩
  simp only [List.mem_singleton] at hv; subst hv; rfl
@[go_sem] theorem retK_agg (cs : List AV) : retK σ R [.agg cs] = R (res σ (.agg cs)) := by
  simp only [retK, expOK, topIds, AV.single, expo, topP_nil (vs := [.agg cs]) rfl, killS_nil, eq_iff_iff, true_and]
  refine ⟨fun h => h.2, fun h => ⟨⟨by simp, fun v hv => ?_⟩, h⟩⟩
  simp only [List.mem_singleton] at hv; subst hv; exact namesB_nil _
def expoO (b : Option Blk) (s n : Nat) (ptr : Bool) (σ : Store) (p : Nat → Bool) (K : AV → Prop) : Prop := match b, ptr with
  | some k, false => needV (k.sz = s ∧ n ≤ k.es.length ∧ AV.namesL p k.es = false) K (.new k.e s (resL (res (killS p σ)) (k.es.take n)))
  | some k, true => needV (k.sz = s ∧ AV.namesL p k.es = false) K (.nptr k.e s (resL (res (killS p σ)) k.es))
  | none, _ => False
theorem topP_one (vs : List AV) (id : Nat) (h : topIds vs = [id]) : topP vs = isId id := by
  funext i; simp only [topP, h, isId, List.contains_cons, List.contains_nil, Bool.or_false]
@[go_sem] theorem retK_own (id s n : Nat) : retK σ R [.own id s 0 n] = expoO (σ id) s n false σ (isId id) R := by
  simp only [retK, expOK, topIds, AV.single, expo, topP_one [.own id s 0 n] id rfl, eq_iff_iff, true_and]
  unfold expoO needV
  cases hb : σ id with
  | none =>
    simp only [iff_false]
    intro ⟨⟨_, h⟩, _⟩
    have := h _ (by simp : AV.own id s 0 n ∈ [AV.own id s 0 n])
    simp [expOK1, hb] at this
  | some k =>
    refine ⟨fun ⟨⟨_, h⟩, hR⟩ => ?_, fun ⟨h, hR⟩ => ⟨⟨by simp, fun v hv => ?_⟩, hR⟩⟩
    · have := h _ (by simp : AV.own id s 0 n ∈ [AV.own id s 0 n])
      simp only [expOK1, hb] at this
      obtain ⟨k', hk, h1, h2, h3⟩ := this
      cases hk; exact ⟨⟨h1, h2, h3⟩, hR⟩
    · simp only [List.mem_singleton] at hv; subst hv
      exact ⟨k, hb, h⟩
attribute [go_sem] expoO
@[go_sem] theorem retK_clo (g : Nat) (caps : List AV) : retK σ R [.clo g caps] = need ((topIds caps).Nodup ∧ expAll σ (topP caps) caps) (R (.clo g (caps.map (expo σ (topP caps))))) := by
  show (((topIds caps).Nodup ∧ ∀ v ∈ caps, expOK1 σ (topP caps) v) ∧ _) = _
  rw [expAll_iff]; rfl
@[go_sem] theorem retK_two (a b : AV) (l : List AV) : retK σ R (a :: b :: l) = need ((topIds (a :: b :: l)).Nodup ∧ expAll σ (topP (a :: b :: l)) (a :: b :: l)) (R (.tup ((a :: b :: l).map (expo σ (topP (a :: b :: l)))))) := by
  have : retK σ R (a :: b :: l) = (expOK σ (a :: b :: l) ∧ R (.tup ((a :: b :: l).map (expo σ (topP (a :: b :: l)))))) := by
    unfold retK; split <;> first | rfl | simp_all
  rw [this]; unfold need expOK; rw [expAll_iff]
attribute [go_sem] expAll
@[go_sem] theorem topIds_v (x : Value) (l : List AV) : topIds (.v x :: l) = topIds l := rfl
@[go_sem] theorem topIds_sl (s : Nat) (es l : List AV) : topIds (.sl s es :: l) = topIds l := rfl
@[go_sem] theorem topIds_agg (es l : List AV) : topIds (.agg es :: l) = topIds l := rfl
@[go_sem] theorem topIds_own (id s n : Nat) (l : List AV) : topIds (.own id s 0 n :: l) = id :: topIds l := rfl
@[go_sem] theorem topIds_ptr (id s : Nat) (l : List AV) : topIds (.ptr id s 0 0 :: l) = id :: topIds l := rfl
@[go_sem] theorem topIds_nil : topIds [] = [] := rfl
@[go_sem] theorem topP_at (l : List AV) (i : Nat) : topP l i = (topIds l).contains i := rfl
@[go_sem] theorem exp1_v (x : Value) : expOK1 σ p (.v x) = True := by simp [expOK1, AV.namesB]
@[go_sem] theorem exp1_sl (s : Nat) (es : List AV) : expOK1 σ p (.sl s es) = True := by simp [expOK1, AV.namesB]
@[go_sem] theorem exp1_agg (es : List AV) : expOK1 σ p (.agg es) = (AV.namesL p es = false) := rfl
def exp1O (b : Option Blk) (s n : Nat) (p : Nat → Bool) : Prop := match b with | some k => k.sz = s ∧ n ≤ k.es.length ∧ AV.namesL p k.es = false | none => False
@[go_sem] theorem exp1_own (id s n : Nat) : expOK1 σ p (.own id s 0 n) = exp1O (σ id) s n p := by
  unfold exp1O; simp only [expOK1]; cases σ id <;> simp
attribute [go_sem] exp1O
def exp1P (b : Option Blk) (s : Nat) (p : Nat → Bool) : Prop := match b with | some k => k.sz = s ∧ AV.namesL p k.es = false | none => False
@[go_sem] theorem exp1_ptr (id s : Nat) : expOK1 σ p (.ptr id s 0 0) = exp1P (σ id) s p := by
  unfold exp1P; simp only [expOK1]; cases σ id <;> simp
attribute [go_sem] exp1P
def expoP (b : Option Blk) (s : Nat) (σ : Store) (p : Nat → Bool) : AV := match b with | some k => .nptr k.e s (resL (res (killS p σ)) k.es) | none => .any
@[go_sem] theorem expo_ptr (id s : Nat) : expo σ p (.ptr id s 0 0) = expoP (σ id) s σ p := by unfold expoP; simp only [expo]; cases σ id <;> rfl
attribute [go_sem] expoP
@[go_sem] theorem expo_v (x : Value) : expo σ p (.v x) = .v x := rfl
@[go_sem] theorem expo_sl (s : Nat) (es : List AV) : expo σ p (.sl s es) = .sl s es := rfl
@[go_sem] theorem expo_agg (es : List AV) : expo σ p (.agg es) = res (killS p σ) (.agg es) := rfl
def expoB (b : Option Blk) (s n : Nat) (σ : Store) (p : Nat → Bool) : AV := match b with | some k => .new k.e s (resL (res (killS p σ)) (k.es.take n)) | none => .any
@[go_sem] theorem expo_own (id s n : Nat) : expo σ p (.own id s 0 n) = expoB (σ id) s n σ p := by unfold expoB; simp only [expo]; cases σ id <;> rfl
attribute [go_sem] expoB
end
def againQ (I : Nat → Env → Store → Prop) (n : Nat) (E : Env) (σ : Store) : Prop := ∃ m, m < n ∧ I m E σ
theorem loopC_mk {B : (Exit → Env → Store → Prop) → Env → Store → Prop} {Q : Exit → Env → Store → Prop} {E : Env} {σ : Store} (I : Nat → Env → Store → Prop) (n : Nat) (h0 : I n E σ)
    (hs : ∀ n E σ, I n E σ → B (thenQ (againQ I n) Q) E σ) : loopC B Q E σ := ⟨I, ⟨n, h0⟩, hs⟩
theorem againQ_mk {I : Nat → Env → Store → Prop} {n : Nat} {E : Env} {σ : Store} (m : Nat) (h : m < n) (hI : I m E σ) : againQ I n E σ := ⟨m, h, hI⟩
@[go_sem] theorem sp_P (P : Program) (f N : Nat) : (spOf P f N).P = P := rfl
@[go_sem] theorem sp_b (P : Program) (f N : Nat) : (spOf P f N).b = 131072 * (f + 1) := rfl
@[go_sem ↓] theorem sp_bad (P : Program) (f N id : Nat) : (spOf P f N).bad id = false := rfl
@[go_sem] theorem sp_N (P : Program) (f N : Nat) : (spOf P f N).N = N := rfl
@[go_sem] theorem sp_pin (P : Program) (f N id : Nat) : (spOf P f N).pin id = false := rfl
theorem ev_of {P : Program} {f : FuncId} {fn : Func} {c : Code} {args : List AV} {r : AV} (hf : P.funcs[f]? = some fn) (hb : fn.body = some c) (hok : fnQ P fn c = true) (hmo : P.follows .mixedOrders = true)
    (hlen : args.length ≤ fn.ntmps) (h : awpC (spOf P f fn.ntmps) c (retC (spOf P f fn.ntmps) fn r) (initE args) fun _ => none) : Ev P f args r :=
  ev_of_awp hf hb (fnOK_of hok) hmo hlen (awpC_of (S := spOf P f fn.ntmps) (fun _ _ _ _ _ hk => (show False from hk).elim) c (retC_of fn r) h)
end Go.Vai

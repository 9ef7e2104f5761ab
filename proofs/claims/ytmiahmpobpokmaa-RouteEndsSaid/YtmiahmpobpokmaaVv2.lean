/- A range over such a function. -/
import Derived.Test.YtmiahmpobpokmaaVv
namespace Go.Vai
open Go.RowKit

variable {P : Program} {C : Fx} {w w' : World} {ρ : Nat → Option Nat} {Im : Nat → Prop} {M : Str} {E : Env} {σ : Store} {a : Act}

/-- The state of an activation, the world behind it left open. -/
structure Core (C : Fx) (E : Env) (σ : Store) (a : Act) (w : World) (ρ : Nat → Option Nat) (Im : Nat → Prop) (M : Str) : Prop where
  inv : Inv w ρ Im σ
  env : EnvRep w ρ Im E a.tmps
  size : a.tmps.size = C.N
  rng : ∀ id b, ρ id = some b → C.X0 b ∨ C.w0.heap.size ≤ b
  im : ∀ b, Im b → C.Im0 b ∨ C.w0.heap.size ≤ b
  gh : ∀ p, AV.namesB p (E C.N) = false
  g : C.G (E C.N) M w
  js : ∀ b, M.j b → Im b
  ms : ∀ b, M.m b → b < w.heap.size ∧ (∀ id, ρ id ≠ some b) ∧ ¬ Im b ∧ (C.X0 b ∨ C.w0.heap.size ≤ b)
  rd : ∀ l r, C.rd = some (l, r) → w.heap[l]? = some (.loop r)
  nodup : a.defers.Nodup
  df : ∀ d ∈ a.defers, ∃ D, d = stamp D ∧ w.heap[D]? = some (.deferred (some [])) ∧ C.w0.heap.size ≤ D
  bk : ∀ b, C.book a b → (∀ id, ρ id ≠ some b) ∧ ¬ Im b ∧ ¬ M.m b
  pin : ∀ id ob, C.pin id = some ob → ρ id = ob
  j0 : ∀ b, C.J0 b → Im b

theorem Wit.core (h : Wit C E σ a w ρ Im M) : Core C E σ a w ρ Im M := ⟨h.inv, h.env, h.size, h.rng, h.im, h.gh, h.g, h.js, h.ms, h.rd, h.nodup, h.df, h.bk, h.pin, h.j0⟩
theorem Core.wit (h : Core C E σ a w ρ Im M) (hx : Ext C.w0 C.X0 w) : Wit C E σ a w ρ Im M := ⟨h.inv, h.env, h.size, hx, h.rng, h.im, h.gh, h.g, h.js, h.ms, h.rd, h.nodup, h.df, h.bk, h.pin, h.j0⟩

theorem Inv.carry (h : Inv w ρ Im σ) (hb : ∀ k, (∃ id, ρ id = some k) ∨ Im k → w'.heap[k]? = w.heap[k]?) (hs : w.heap.size ≤ w'.heap.size) : Inv w' ρ Im σ := by
  have rep : ∀ {v : AV} {y : Value}, Rep w ρ Im v y → Rep w' ρ Im v y := fun {v y} hr =>
    Rep.mono (w := w) (w' := w') (fun _ h => h) (fun b hI => hb b (.inr hI)) hr fun i _ => ⟨rfl, fun b hi cur e hc => ⟨cur, by rw [hb b (.inl ⟨i, hi⟩)]; exact hc, rfl⟩⟩
  exact ⟨h.nil, fun i k b hk hi hz => by
      obtain ⟨ents, clk, hbb, hl, hc⟩ := h.map i k b hk hi hz
      exact ⟨ents, clk, by rw [hb b (.inl ⟨i, hi⟩)]; exact hbb, hl, fun i m hm => by obtain ⟨v, hv, hr⟩ := hc i m hm; exact ⟨v, hv, rep hr⟩⟩,
    fun i k b hk hi hz => by
      obtain ⟨cur, hbb, hl, hs, hc⟩ := h.blk i k b hk hi hz
      exact ⟨cur, by rw [hb b (.inl ⟨i, hi⟩)]; exact hbb, hl, hs, fun i e j c he hcc => by obtain ⟨v, hv, h1, hr⟩ := hc i e j c he hcc; exact ⟨v, hv, h1, rep hr⟩⟩,
    h.inj, h.live, h.apart, fun b hI => Nat.lt_of_lt_of_le (h.low b hI) hs⟩

theorem Core.bklt (h : Core C E σ a w ρ Im M) {b : Nat} (hb : C.book a b) : b < w.heap.size := by
  rcases hb with ⟨r, hr⟩ | hd
  · exact (Array.getElem?_eq_some_iff.1 (h.rd b r hr)).1
  · obtain ⟨D, e, hD, _⟩ := h.df _ hd
    rw [stamp_inj e]; exact (Array.getElem?_eq_some_iff.1 hD).1

theorem Core.carry (hG : GStable C.G) (h : Core C E σ a w ρ Im M) (hb : ∀ k, (∃ id, ρ id = some k) ∨ Im k ∨ M.m k ∨ C.book a k → w'.heap[k]? = w.heap[k]?) (hs : w.heap.size ≤ w'.heap.size)
    (ho : w'.os = w.os) (ht : w'.tape = w.tape) (hout : w'.output = w.output) : Core C E σ a w' ρ Im M where
  inv := h.inv.carry (fun k hk => hb k (by rcases hk with h | h <;> simp [h])) hs
  env := fun t y hy => Rep.mono (w := w) (w' := w') (fun _ h => h) (fun b hI => hb b (.inr (.inl hI))) (h.env t y hy) fun i _ => ⟨rfl, fun b hi cur e hc => ⟨cur, by rw [hb b (.inl ⟨i, hi⟩)]; exact hc, rfl⟩⟩
  size := h.size
  rng := h.rng
  im := h.im
  gh := h.gh
  g := hG _ _ _ _ h.g (fun k hk => hb k (by rcases hk with hk | hk; exact .inr (.inr (.inl hk)); exact .inr (.inl (h.js k hk)))) hs ho ht hout
  js := h.js
  ms := fun b hm => by obtain ⟨h1, h2⟩ := h.ms b hm; exact ⟨Nat.lt_of_lt_of_le h1 hs, h2⟩
  rd := fun l r hr => by rw [hb l (.inr (.inr (.inr (.inl ⟨r, hr⟩))))]; exact h.rd l r hr
  nodup := h.nodup
  df := fun d hd => by
    obtain ⟨D, e, hD, hl⟩ := h.df d hd
    exact ⟨D, e, by rw [hb D (.inr (.inr (.inr (.inr (e ▸ hd)))))]; exact hD, hl⟩
  bk := h.bk
  pin := h.pin
  j0 := h.j0

/-! ### What a round sees of its frame -/

mutual
def AV.ownB : AV → Bool
  | .own _ _ _ _ => true
  | .agg cs => AV.ownL cs
  | .tup cs => AV.ownL cs
  | .clo _ cs => AV.ownL cs
  | _ => false
def AV.ownL : List AV → Bool
  | [] => false
  | c :: cs => AV.ownB c || AV.ownL cs
end

theorem AV.ownL_mem {cs : List AV} (h : AV.ownL cs = false) : ∀ c ∈ cs, AV.ownB c = false := by
  induction cs with
  | nil => simp
  | cons x cs ih =>
    simp only [AV.ownL, Bool.or_eq_false_iff] at h
    intro c hc; rcases List.mem_cons.1 hc with rfl | hc
    · exact h.1
    · exact ih h.2 c hc

/-- Slices of the store, and what is not named, is forgotten. -/
def fade (nm : Nat → Bool) (a : AV) : AV := if (a.kill fun i => !nm i).ownB then .any else a.kill fun i => !nm i
def fadeE (nm : Nat → Bool) (E : Env) : Env := fun t => fade nm (E t)

theorem fade_names {nm : Nat → Bool} {a : AV} {id : Nat} (h : Names (fade nm a) id) : nm id = true ∧ Names a id := by
  unfold fade at h
  split at h
  · cases h
  · obtain ⟨h1, h2⟩ := AV.kill_names _ a id h; exact ⟨by simpa using h2, h1⟩

theorem fade_own (nm : Nat → Bool) (a : AV) : (fade nm a).ownB = false := by
  unfold fade; split
  · rfl
  · rename_i h; simpa using h

theorem Rep.fade {nm : Nat → Bool} {a : AV} {y : Value} (h : Rep w ρ Im a y) : Rep w ρ Im (Vai.fade nm a) y := by
  unfold Vai.fade; split
  · exact .im _ _ (.any _)
  · exact h.kill _

theorem fade_nameless {nm : Nat → Bool} {a : AV} (h : ∀ p, AV.namesB p a = false) : fade nm a = a := by
  have hk : a.kill (fun i => !nm i) = a := kill_of_not (h _)
  unfold fade
  rw [hk]
  have : a.ownB = false := by
    have h1 := h allB
    suffices hh : ∀ n (a : AV), SizeOf.sizeOf a < n → AV.namesB allB a = false → a.ownB = false from hh _ a (Nat.lt_succ_self _) h1
    intro n
    induction n with
    | zero => intro a h; omega
    | succ n ih =>
      intro a hs hn
      have lst : ∀ cs : List AV, (∀ c ∈ cs, SizeOf.sizeOf c < n) → AV.namesL allB cs = false → AV.ownL cs = false := by
        intro cs
        induction cs with
        | nil => intro _ _; rfl
        | cons c cs ihl =>
          intro hcs hl
          simp only [AV.namesL, Bool.or_eq_false_iff] at hl
          simp only [AV.ownL, Bool.or_eq_false_iff]
          exact ⟨ih c (hcs c (by simp)) hl.1, ihl (fun c hc => hcs c (by simp [hc])) hl.2⟩
      cases a with
      | own i s o m => simp [AV.namesB, allB] at hn
      | agg cs => exact lst cs (fun c hc => by have := List.sizeOf_lt_of_mem hc; simp at hs; omega) hn
      | tup cs => exact lst cs (fun c hc => by have := List.sizeOf_lt_of_mem hc; simp at hs; omega) hn
      | clo g cs => exact lst cs (fun c hc => by have := List.sizeOf_lt_of_mem hc; simp at hs; omega) hn
      | _ => rfl
  rw [this]; rfl

/-- Without slices of the store: a value stands as long as its blocks keep their places. -/
theorem Rep.stay {ρ' : Nat → Option Nat} {Im' : Nat → Prop} (hI : ∀ b, Im b → Im' b) (hc : ∀ b, Im b → w'.heap[b]? = w.heap[b]?) {a : AV} {y : Value} (h : Rep w ρ Im a y) (ho : a.ownB = false) (hρ : ∀ id, Names a id → ρ' id = ρ id) : Rep w' ρ' Im' a y := by
  induction h with
  | im a y h => exact .im a y (h.mono hI hc)
  | agg cs ys hl h1 _ ih => exact .agg cs ys hl h1 fun j c y hj hy => ih j c y hj hy (AV.ownL_mem ho c (List.mem_of_getElem? hj)) fun id hn => hρ id (.agg cs c id (List.mem_of_getElem? hj) hn)
  | tup cs ys hl _ ih => exact .tup cs ys hl fun j c y hj hy => ih j c y hj hy (AV.ownL_mem ho c (List.mem_of_getElem? hj)) fun id hn => hρ id (.tup cs c id (List.mem_of_getElem? hj) hn)
  | clo g cs ys hl _ ih => exact .clo g cs ys hl fun j c y hj hy => ih j c y hj hy (AV.ownL_mem ho c (List.mem_of_getElem? hj)) fun id hn => hρ id (.clo g cs c id (List.mem_of_getElem? hj) hn)
  | ownNil => cases ho
  | own => cases ho
  | ownAt => cases ho
  | ptr id sz i j b hr hz => exact .ptr id sz i j b (by rw [hρ id (.ptr ..)]; exact hr) hz
  | mref id b hr => exact .mref id b (by rw [hρ id (.mref ..)]; exact hr)

/-- Yield's arguments lie in the round's slots. -/
def setPs (E : Env) (ps : List Nat) (x : List AV) : Env := (ps.zip x).foldl (fun E p => upd E p.1 p.2) E

theorem setPs_rep {N : Nat} : ∀ (ps : List Nat) (x : List AV) (vs : List Value) (E : Env) (tm : Array Value), EnvRep w ρ Im E tm → IReps w Im x vs → tm.size = N → 
    EnvRep w ρ Im (setPs E ps x) ((ps.zip vs).foldl (fun tm (t, v) => tm.setIfInBounds t v) tm) ∧ ((ps.zip vs).foldl (fun tm (t, v) => tm.setIfInBounds t v) tm).size = N
  | [], x, vs, E, tm, h, _, hs => ⟨by simpa [setPs] using h, by simpa using hs⟩
  | p :: ps, [], vs, E, tm, h, hr, hs => by
    have : vs = [] := List.eq_nil_of_length_eq_zero (by have := hr.1; simpa using this.symm)
    subst this; exact ⟨by simpa [setPs] using h, by simpa using hs⟩
  | p :: ps, c :: x, [], E, tm, h, hr, hs => by have := hr.1; simp at this
  | p :: ps, c :: x, v :: vs, E, tm, h, hr, hs => by
    have h1 : EnvRep w ρ Im (upd E p c) (tm.setIfInBounds p v) := EnvRep.put (dst := some p) (tm := { tmps := tm, defers := [] }) h (.im _ _ (hr.2 0 c v rfl rfl))
    exact setPs_rep ps x vs (upd E p c) (tm.setIfInBounds p v) h1 ⟨by simpa using hr.1, fun j d y hd hy => hr.2 (j + 1) d y (by simpa using hd) (by simpa using hy)⟩ (by simpa using hs)

theorem setPs_out {N : Nat} : ∀ (ps : List Nat) (x : List AV) (E : Env), (∀ p ∈ ps, p < N) → setPs E ps x N = E N
  | [], x, E, _ => by simp [setPs]
  | p :: ps, [], E, _ => by simp [setPs]
  | p :: ps, c :: x, E, h => by
    have := setPs_out (N := N) ps x (upd E p c) fun q hq => h q (by simp [hq])
    simp only [setPs, List.zip_cons_cons, List.foldl_cons] at this ⊢
    rw [this]; simp only [upd]; rw [if_neg (by have := h p (by simp); omega)]

end Go.Vai

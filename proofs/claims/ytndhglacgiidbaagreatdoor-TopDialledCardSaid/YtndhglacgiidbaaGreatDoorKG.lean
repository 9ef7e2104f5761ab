/- Routes -/
import Derived.Test.YtndhglacgiidbaaGreatDoorKF
set_option linter.unusedVariables false
set_option linter.unusedSimpArgs false
namespace Go.Proofs.YtndhglacgiidbaaGreatDoor.Rt
open Go.Vai Go
open Nat (reduceEqDiff reduceMul reduceAdd reduceDiv reduceLeDiff)
open Int (reduceToNat reduceNe reduceEq reduceLT reduceLE)
def pickF (c n : Int) : Int := (if c < 0 then -(c + 1) else c).tmod n
def inF (n lo hi : Int) : Bool := decide (lo ≤ n) && decide (n ≤ hi)
def holdersF (h : List Int) : Bool := inF h.length 1 30 && h.all fun c => inF c (-1) 7
def findF (l : List Int) (v : Nat) : Nat → Int
  | 0 => -1
  | n + 1 => if inF (gd l v) (-1) 7 = false then v else findF l (v + 1) n
def turnsF (h : List Int) (c : Int) (v : Nat) : Prop := gd h v ≠ gd h (v - 1) ∧ (gd h v = c ∨ gd h (v - 1) = c)
instance (h : List Int) (c : Int) (v : Nat) : Decidable (turnsF h c v) := by unfold turnsF; exact inferInstance
def leastF (h : List Int) (lag c : Int) : Nat → Int
  | 0 => max 0 ((h.length : Int) - 1 - lag)
  | v + 1 => if turnsF h c (v + 1) then max (leastF h lag c v) ((v + 1 : Nat) : Int) else leastF h lag c v
def validF (h k : List Int) (lag : Int) : Bool :=
  holdersF h && decide (k.length = 8) && inF lag 0 10 && (List.range 8).all fun (c : Nat) => decide (gd k c = -1) || inF (gd k c) (leastF h lag c (h.length - 1)) ((h.length : Int) - 1)
theorem leastF_le (h : List Int) (lag c x : Int) : ∀ v, leastF h lag c v ≤ x ↔ 0 ≤ x ∧ (h.length : Int) - 1 - lag ≤ x ∧ ∀ i, 1 ≤ i → i ≤ v → turnsF h c i → (i : Int) ≤ x
  | 0 => by
    simp only [leastF]
    constructor
    · intro hx; exact ⟨by omega, by omega, fun i h1 h2 => by omega⟩
    · intro ⟨h1, h2, _⟩; omega
  | v + 1 => by
    have ih := leastF_le h lag c x v
    simp only [leastF]
    split
    · rename_i ht
      constructor
      · intro hx
        have := ih.1 (by omega)
        refine ⟨this.1, this.2.1, fun i h1 h2 h3 => ?_⟩
        by_cases e : i = v + 1
        · subst e; omega
        · exact this.2.2 i h1 (by omega) h3
      · intro ⟨h1, h2, h3⟩
        have a := ih.2 ⟨h1, h2, fun i h4 h5 h6 => h3 i h4 (by omega) h6⟩
        have b := h3 (v + 1) (by omega) (by omega) ht
        omega
    · rename_i ht
      rw [ih]
      constructor
      · intro ⟨h1, h2, h3⟩
        refine ⟨h1, h2, fun i h4 h5 h6 => ?_⟩
        by_cases e : i = v + 1
        · subst e; exact absurd h6 ht
        · exact h3 i h4 (by omega) h6
      · intro ⟨h1, h2, h3⟩
        exact ⟨h1, h2, fun i h4 h5 h6 => h3 i h4 (by omega) h6⟩
theorem inF_iff (n lo hi : Int) : inF n lo hi = true ↔ lo ≤ n ∧ n ≤ hi := by simp [inF]
theorem inF_not (n lo hi : Int) : inF n lo hi = false ↔ ¬ (lo ≤ n ∧ n ≤ hi) := by rw [← inF_iff]; simp
def decideF (h k : List Int) (c u : Int) : Int × Int × Int :=
  if gd h (max (gd k c.toNat) u).toNat = c then (max (gd k c.toNat) u, -1, 1)
  else if gd h (max (gd k c.toNat) u).toNat < 0 then (max (gd k c.toNat) u, -1, 2)
  else if gd k (gd h (max (gd k c.toNat) u).toNat).toNat < 0 then (max (gd k c.toNat) u, -1, 3)
  else (max (gd k c.toNat) u, gd h (max (gd k c.toNat) u).toNat, 0)
def canF (h k : List Int) (lag c : Int) : Bool := validF h k lag && (decide (0 ≤ c ∧ c ≤ 7) && decide (0 ≤ gd k c.toNat))
def T3 (r : Int × Int × Int) : AV := .tup [I r.1, I r.2.1, I r.2.2]
abbrev Er (n : Int) : AV := .v (.int .i64 n)
theorem valid_holders {h k : List Int} {lag : Int} (hv : validF h k lag = true) : holdersF h = true ∧ k.length = 8 ∧ 0 ≤ lag ∧ lag ≤ 10 ∧ 1 ≤ h.length ∧ h.length ≤ 30 := by
  simp only [validF, holdersF, Bool.and_eq_true, decide_eq_true_eq, inF_iff] at hv ⊢
  obtain ⟨⟨⟨h1, h2⟩, h3⟩, _⟩ := hv
  exact ⟨h1, h2, h3.1, h3.2, by omega, by omega⟩
theorem holders_at {h : List Int} (hh : holdersF h = true) (i : Nat) (hi : i < h.length) : -1 ≤ gd h i ∧ gd h i ≤ 7 := by
  simp only [holdersF, Bool.and_eq_true] at hh
  exact (inF_iff _ _ _).1 (List.all_eq_true.1 hh.2 _ (gd_mem h i hi))
theorem valid_known {h k : List Int} {lag : Int} (hv : validF h k lag = true) (i : Nat) (hi : i < 8) : gd k i = -1 ∨ (leastF h lag i (h.length - 1) ≤ gd k i ∧ gd k i ≤ (h.length : Int) - 1) := by
  simp only [validF, Bool.and_eq_true] at hv
  have := List.all_eq_true.1 hv.2 i (List.mem_range.2 hi)
  simpa [inF_iff] using this
theorem leastF_nonneg (h : List Int) (lag c : Int) (n : Nat) : 0 ≤ leastF h lag c n := ((leastF_le h lag c (leastF h lag c n) n).1 (by omega)).1
theorem valid_known' {h k : List Int} {lag : Int} (hv : validF h k lag = true) (i : Nat) (hi : i < 8) : -1 ≤ gd k i ∧ gd k i ≤ (h.length : Int) - 1 := by
  have h1 := valid_known hv i hi
  have h2 := leastF_nonneg h lag i (h.length - 1)
  have := (valid_holders hv).2.2.2.2
  omega
def knownF1 (h : List Int) (lag : Int) (y : List Int) (c : Nat) : Int :=
  if pickF (gd y c) 16 = 15 then -1 else leastF h lag c (h.length - 1) + pickF ((gd y c).tdiv 16) (h.length - leastF h lag c (h.length - 1))
def knownF (h : List Int) (lag : Int) (y : List Int) : List Int := (List.range 8).map fun c => knownF1 h lag y c
theorem pickF_in {c n : Int} (hn : 0 < n) : 0 ≤ pickF c n ∧ pickF c n < n := by
  unfold pickF
  have h0 : 0 ≤ (if c < 0 then -(c + 1) else c) := by split <;> omega
  rw [Int.tmod_eq_emod_of_nonneg h0]
  exact ⟨Int.emod_nonneg _ (by omega), Int.emod_lt_of_pos _ hn⟩
theorem leastF_lt {h : List Int} (h1 : 1 ≤ h.length) (lag c : Int) (hl : 0 ≤ lag) : leastF h lag c (h.length - 1) ≤ (h.length : Int) - 1 :=
  (leastF_le h lag c _ _).2 ⟨by omega, by omega, fun i h2 h3 _ => by omega⟩
theorem knownF_at (h : List Int) (lag : Int) (y : List Int) (c : Nat) (hc : c < 8) : gd (knownF h lag y) c = knownF1 h lag y c := by
  unfold gd knownF
  rw [List.getD_eq_getElem?_getD, List.getElem?_map, List.getElem?_range hc]; rfl
theorem knownF_length (h : List Int) (lag : Int) (y : List Int) : (knownF h lag y).length = 8 := by simp [knownF]
theorem known_valid {h : List Int} (hh : holdersF h = true) (lag : Int) (hl : 0 ≤ lag ∧ lag ≤ 10) (y : List Int) : validF h (knownF h lag y) lag = true := by
  have h1 : 1 ≤ h.length := by simp only [holdersF, Bool.and_eq_true, inF_iff] at hh; omega
  simp only [validF, Bool.and_eq_true]
  refine ⟨⟨⟨hh, by simp [knownF]⟩, (inF_iff _ _ _).2 hl⟩, List.all_eq_true.2 fun c hc => ?_⟩
  have hc := List.mem_range.1 hc
  rw [knownF_at _ _ _ _ hc]
  unfold knownF1
  split
  · simp
  · have h2 := leastF_lt h1 lag c hl.1
    have h3 := pickF_in (c := (gd y c).tdiv 16) (n := h.length - leastF h lag c (h.length - 1)) (by omega)
    rw [Bool.or_eq_true]; exact .inr ((inF_iff _ _ _).2 ⟨by omega, by omega⟩)
abbrev HP (x : Int × Int) : AV := .agg [I x.1, I x.2]
abbrev HL (l : List (Int × Int)) : AV := .sl 2 (l.map HP)
def walkF (h k : List Int) : Nat → Int → Int → List (Int × Int) × Int
  | 0, _, _ => ([], 0)
  | n + 1, c, u =>
    if (decideF h k c u).2.2 = 0 then ((c, (decideF h k c u).1) :: (walkF h k n (decideF h k c u).2.1 (decideF h k c u).1).1, (walkF h k n (decideF h k c u).2.1 (decideF h k c u).1).2)
    else ([(c, (decideF h k c u).1)], (decideF h k c u).2.2)
def pathF (h k : List Int) (c : Int) : List (Int × Int) × Int := walkF h k (h.length + 1) c (-1)
def pathR (h k : List Int) (lag c : Int) : AV := if canF h k lag c = true then .tup [.new 58 2 ((pathF h k c).1.map HP), I (pathF h k c).2, Er 0] else .tup [.new 58 2 [], I 0, Er 240]
def AtF (h k : List Int) (c u : Int) : Prop := 0 ≤ c ∧ c ≤ 7 ∧ 0 ≤ gd k c.toNat ∧ -1 ≤ u ∧ u ≤ (h.length : Int) - 1 ∧ (u = -1 ∨ gd h u.toNat = c)
theorem at_step {h k : List Int} {lag c u : Int} (hv : validF h k lag = true) (ha : AtF h k c u) :
    u ≤ (decideF h k c u).1 ∧ 0 ≤ (decideF h k c u).1 ∧ (decideF h k c u).1 ≤ (h.length : Int) - 1 ∧ (decideF h k c u).1 = max (gd k c.toNat) u ∧
    (((decideF h k c u).2.2 = 0 ∧ u < (decideF h k c u).1 ∧ (decideF h k c u).2.1 = gd h (decideF h k c u).1.toNat ∧ AtF h k (decideF h k c u).2.1 (decideF h k c u).1) ∨
      ((decideF h k c u).2.1 = -1 ∧ ((decideF h k c u).2.2 = 1 ∧ gd h (decideF h k c u).1.toNat = c ∨ (decideF h k c u).2.2 = 2 ∧ gd h (decideF h k c u).1.toNat = -1 ∨
        (decideF h k c u).2.2 = 3 ∧ 0 ≤ gd h (decideF h k c u).1.toNat ∧ gd h (decideF h k c u).1.toNat ≠ c ∧ gd k (gd h (decideF h k c u).1.toNat).toNat = -1))) := by
  obtain ⟨h1, h2, h3, h4, h5, h6⟩ := ha
  obtain ⟨g1, g2, g3, g4, g5, g6⟩ := valid_holders hv
  have hk := valid_known' hv c.toNat (by omega)
  have hw := holders_at g1 (max (gd k c.toNat) u).toNat (by omega)
  unfold decideF
  split
  · rename_i e; exact ⟨by simp; omega, by simp; omega, by simp; omega, rfl, .inr ⟨rfl, .inl ⟨rfl, e⟩⟩⟩
  · rename_i e
    split
    · exact ⟨by simp; omega, by simp; omega, by simp; omega, rfl, .inr ⟨rfl, .inr (.inl ⟨rfl, by simp; omega⟩)⟩⟩
    · rename_i e2
      have hkn := valid_known' hv (gd h (max (gd k c.toNat) u).toNat).toNat (by omega)
      split
      · refine ⟨by simp; omega, by simp; omega, by simp; omega, rfl, .inr ⟨rfl, .inr (.inr ⟨rfl, by simp; omega, e, ?_⟩)⟩⟩
        simp only; omega
      · rename_i e3
        have hlt : u < max (gd k c.toNat) u := by
          rcases h6 with h6 | h6
          · omega
          · by_cases hq : max (gd k c.toNat) u = u
            · rw [hq] at e; exact absurd h6 e
            · omega
        refine ⟨by simp; omega, by simp; omega, by simp; omega, rfl, .inl ⟨rfl, hlt, rfl, ?_⟩⟩
        exact ⟨by simp; omega, by simp; omega, by simp; omega, by simp; omega, by simp; omega, .inr rfl⟩
theorem walk_here {h k : List Int} {lag : Int} (hv : validF h k lag = true) : ∀ (n : Nat) (c u : Int), AtF h k c u → (h.length : Int) - u ≤ n → ∀ x ∈ (walkF h k n c u).1, 0 ≤ x.1 ∧ x.1 ≤ 7 ∧ 0 ≤ gd k x.1.toNat ∧ 0 ≤ x.2 ∧ x.2 ≤ (h.length : Int) - 1
  | 0, c, u, ha, hn, x, hx => by simp [walkF] at hx
  | n + 1, c, u, ha, hn, x, hx => by
    obtain ⟨s1, s2, s3, s4, s5⟩ := at_step hv ha
    obtain ⟨a1, a2, a3, _⟩ := ha
    unfold walkF at hx
    split at hx
    · rename_i he
      rcases s5 with ⟨_, s6, s7, s8⟩ | ⟨_, s6⟩
      · rcases List.mem_cons.1 hx with rfl | hx
        · exact ⟨a1, a2, a3, s2, s3⟩
        · exact walk_here hv n _ _ s8 (by omega) x hx
      · omega
    · simp at hx; subst hx; exact ⟨a1, a2, a3, s2, s3⟩
theorem walk_length {h k : List Int} : ∀ (n : Nat) (c u : Int), (walkF h k (n + 1) c u).1 ≠ [] ∧ (walkF h k n c u).1.length ≤ n
  | 0, c, u => ⟨by unfold walkF; split <;> simp, by simp [walkF]⟩
  | n + 1, c, u => by
    refine ⟨by unfold walkF; split <;> simp, ?_⟩
    unfold walkF
    split
    · have := (walk_length (h := h) (k := k) n (decideF h k c u).2.1 (decideF h k c u).1).2
      simp; omega
    · simp
theorem can_at {h k : List Int} {lag c : Int} (hcan : canF h k lag c = true) : validF h k lag = true ∧ AtF h k c (-1) := by
  simp only [canF, Bool.and_eq_true, decide_eq_true_eq] at hcan
  have := valid_holders hcan.1
  exact ⟨hcan.1, by omega, by omega, by omega, by omega, by omega, .inl rfl⟩
theorem path_in {h k : List Int} {lag c : Int} (hcan : canF h k lag c = true) : ∀ x ∈ (pathF h k c).1, 0 ≤ x.1 ∧ x.1 ≤ 7 ∧ 0 ≤ gd k x.1.toNat ∧ 0 ≤ x.2 ∧ x.2 ≤ (h.length : Int) - 1 :=
  walk_here (can_at hcan).1 _ _ _ (can_at hcan).2 (by omega)
end Go.Proofs.YtndhglacgiidbaaGreatDoor.Rt
namespace Go.Proofs.YtndhglacgiidbaaGreatDoor.Rt
open Go.Vai Go
open Nat (reduceEqDiff reduceMul reduceAdd reduceDiv reduceLeDiff)
open Int (reduceToNat reduceNe reduceEq reduceLT reduceLE)
theorem stays {h k : List Int} {lag : Int} (hv : validF h k lag = true) {c : Int} (hc : 0 ≤ c ∧ c ≤ 7) (hk : 0 ≤ gd k c.toNat) (a : Nat) (ha : gd k c.toNat ≤ a) : ∀ d : Nat, a + d < h.length → (gd h (a + d) = c ↔ gd h a = c)
  | 0, _ => Iff.rfl
  | d + 1, hd => by
    rw [← stays hv hc hk a ha d (by omega)]
    have hkn := valid_known hv c.toNat (by omega)
    have hl := ((leastF_le h lag c.toNat (gd k c.toNat) (h.length - 1)).1 (by omega)).2.2 (a + (d + 1)) (by omega) (by omega)
    have e : a + (d + 1) - 1 = a + d := by omega
    have ec : ((c.toNat : Nat) : Int) = c := by omega
    simp only [turnsF, e, ec] at hl
    by_cases hq : gd h (a + (d + 1)) = gd h (a + d)
    · rw [hq]
    · constructor
      · intro h1; have := hl ⟨hq, .inl h1⟩; omega
      · intro h1; have := hl ⟨hq, .inr h1⟩; omega
theorem stays' {h k : List Int} {lag : Int} (hv : validF h k lag = true) {c : Int} (hc : 0 ≤ c ∧ c ≤ 7) (hk : 0 ≤ gd k c.toNat) {a b : Int} (ha : gd k c.toNat ≤ a) (hab : a ≤ b) (hb : b ≤ (h.length : Int) - 1) : gd h b.toNat = c ↔ gd h a.toNat = c := by
  have := stays hv hc hk a.toNat (by omega) (b - a).toNat (by omega)
  rwa [show a.toNat + (b - a).toNat = b.toNat from by omega] at this
theorem decide_go {h k : List Int} {c u : Int} (he : (decideF h k c u).2.2 = 0) : (decideF h k c u).2.1 = gd h (decideF h k c u).1.toNat ∧ (decideF h k c u).2.1 ≠ c ∧ (decideF h k c u).1 = max (gd k c.toNat) u := by
  revert he
  unfold decideF
  split
  · intro h; simp at h
  · rename_i h1
    split
    · intro h; simp at h
    · split
      · intro h; simp at h
      · intro _; exact ⟨rfl, h1, rfl⟩
theorem decide_w (h k : List Int) (c u : Int) : (decideF h k c u).1 = max (gd k c.toNat) u := by
  unfold decideF; split
  · rfl
  · split
    · rfl
    · split <;> rfl
structure PathOK (h k : List Int) (c u : Int) (p : List (Int × Int)) (e : Int) : Prop where
  pos : 0 < p.length
  zero : gd p 0 = (c, max (gd k c.toNat) u)
  step : ∀ i, i + 1 < p.length → (gd p (i + 1)).1 = gd h (gd p i).2.toNat ∧ (gd p (i + 1)).1 ≠ (gd p i).1 ∧ (gd p (i + 1)).2 = max (gd k (gd p (i + 1)).1.toNat) (gd p i).2
  fin : (e = 1 ∧ gd h (gd p (p.length - 1)).2.toNat = (gd p (p.length - 1)).1) ∨ (e = 2 ∧ gd h (gd p (p.length - 1)).2.toNat = -1) ∨
    (e = 3 ∧ 0 ≤ gd h (gd p (p.length - 1)).2.toNat ∧ gd h (gd p (p.length - 1)).2.toNat ≠ (gd p (p.length - 1)).1 ∧ gd k (gd h (gd p (p.length - 1)).2.toNat).toNat = -1)
theorem walk_ok {h k : List Int} {lag : Int} (hv : validF h k lag = true) : ∀ (n : Nat) (c u : Int), AtF h k c u → (h.length : Int) - u ≤ n → PathOK h k c u (walkF h k n c u).1 (walkF h k n c u).2
  | 0, c, u, ha, hn => by have := ha.2.2.2.2.1; omega
  | n + 1, c, u, ha, hn => by
    obtain ⟨s1, s2, s3, s4, s5⟩ := at_step hv ha
    by_cases he : (decideF h k c u).2.2 = 0
    · obtain ⟨g1, g2, g3⟩ := decide_go he
      have hw : walkF h k (n + 1) c u = ((c, (decideF h k c u).1) :: (walkF h k n (decideF h k c u).2.1 (decideF h k c u).1).1, (walkF h k n (decideF h k c u).2.1 (decideF h k c u).1).2) := by rw [walkF, if_pos he]
      rw [hw]
      rcases s5 with ⟨_, s6, s7, s8⟩ | ⟨_, s6⟩
      · have ih := walk_ok hv n _ _ s8 (by omega)
        generalize (walkF h k n (decideF h k c u).2.1 (decideF h k c u).1).1 = p at *
        generalize (walkF h k n (decideF h k c u).2.1 (decideF h k c u).1).2 = e at *
        refine ⟨by simp, by simp [g3], fun i hi => ?_, ?_⟩
        · cases i with
          | zero => simp only [gd_cons_zero, gd_cons_succ, ih.zero]; exact ⟨g1, g2, trivial⟩
          | succ i => simp only [gd_cons_succ]; exact ih.step i (by simpa using hi)
        · have hp := ih.pos
          have e1 : gd ((c, (decideF h k c u).1) :: p) (((c, (decideF h k c u).1) :: p).length - 1) = gd p (p.length - 1) := by
            rw [List.length_cons, show p.length + 1 - 1 = (p.length - 1) + 1 from by omega, gd_cons_succ]
          rw [e1]; exact ih.fin
      · omega
    · have hw : walkF h k (n + 1) c u = ([(c, (decideF h k c u).1)], (decideF h k c u).2.2) := by rw [walkF, if_neg he]
      rw [hw]
      refine ⟨by simp, by simp [decide_w], fun i hi => by simp at hi, ?_⟩
      simp only [List.length_singleton, Nat.sub_self, gd_cons_zero]
      rcases s5 with ⟨s6, _⟩ | ⟨_, s6⟩
      · exact absurd s6 he
      · exact s6
theorem path_ok {h k : List Int} {lag c : Int} (hcan : canF h k lag c = true) : PathOK h k c (-1) (pathF h k c).1 (pathF h k c).2 :=
  walk_ok (can_at hcan).1 _ _ _ (can_at hcan).2 (by omega)
section
variable {h k : List Int} {lag c : Int} {p : List (Int × Int)} {e : Int}
theorem PathOK.asc {u : Int} (hp : PathOK h k c u p e) (i : Nat) (hi : i + 1 < p.length) : (gd p i).2 ≤ (gd p (i + 1)).2 := by
  have := (hp.step i hi).2.2; omega
theorem PathOK.asc' {u : Int} (hp : PathOK h k c u p e) (i : Nat) : ∀ d, i + d < p.length → (gd p i).2 ≤ (gd p (i + d)).2
  | 0, _ => by simp
  | d + 1, hd => by
    have := PathOK.asc' hp i d (by omega)
    have := hp.asc (i + d) (by omega)
    rw [← Nat.add_assoc]; omega
theorem PathOK.strict {u : Int} (hp : PathOK h k c u p e) (i : Nat) (hi : i + 2 < p.length) : (gd p i).2 < (gd p (i + 1)).2 := by
  have h1 := hp.step i (by omega)
  have h2 := hp.step (i + 1) (by omega)
  have h3 := hp.asc i (by omega)
  by_cases e : (gd p i).2 = (gd p (i + 1)).2
  · rw [e] at h1; exact absurd (h2.1.trans h1.1.symm) h2.2.1
  · omega
theorem PathOK.climb {u : Int} (hp : PathOK h k c u p e) : ∀ i : Nat, i + 1 < p.length → (gd p 0).2 + i ≤ (gd p i).2
  | 0, _ => by simp
  | i + 1, hi => by
    have := PathOK.climb hp i (by omega)
    have := hp.strict i (by omega)
    push_cast; omega
theorem PathOK.once (hcan : canF h k lag c = true) (hp : PathOK h k c (-1) p e) (hin : ∀ x ∈ p, 0 ≤ x.1 ∧ x.1 ≤ 7 ∧ 0 ≤ gd k x.1.toNat ∧ 0 ≤ x.2 ∧ x.2 ≤ (h.length : Int) - 1) (m i : Nat) (hm : m < i) (hi : i < p.length) : (gd p m).1 ≠ (gd p i).1 := by
  intro e1
  obtain ⟨j, rfl⟩ : ∃ j, i = j + 1 := ⟨i - 1, by omega⟩
  have hv := (can_at hcan).1
  have hs := hp.step j (by omega)
  have hsm := hp.step m (by omega)
  have i1 := hin _ (gd_mem p m (by omega))
  have i2 := hin _ (gd_mem p j (by omega))
  have hkm : gd k (gd p m).1.toNat ≤ (gd p m).2 := by
    cases m with
    | zero => rw [hp.zero]; simp only; omega
    | succ m => have := (hp.step m (by omega)).2.2; omega
  have hmj : (gd p m).2 ≤ (gd p j).2 := by
    have := hp.asc' m (j - m) (by omega)
    rwa [show m + (j - m) = j from by omega] at this
  have := (stays' hv ⟨i1.1, i1.2.1⟩ i1.2.2.1 hkm hmj i2.2.2.2.2).1 (by rw [e1]; exact hs.1.symm)
  exact hsm.2.1 (hsm.1.trans this)
end
theorem path_least {h k : List Int} {lag c : Int} (hcan : canF h k lag c = true) : (h.length : Int) - 1 - lag ≤ gd k c.toNat ∧ 0 ≤ gd k c.toNat := by
  have hv := (can_at hcan).1
  have hc := (can_at hcan).2
  have hkn := valid_known hv c.toNat (by have := hc.2.1; omega)
  have := hc.2.2.1
  have hl := (leastF_le h lag c.toNat (gd k c.toNat) (h.length - 1)).1 (by omega)
  exact ⟨hl.2.1, this⟩
theorem path_short {h k : List Int} {lag c : Int} (hcan : canF h k lag c = true) : ((pathF h k c).1.length : Int) ≤ lag + 2 := by
  have hp := path_ok hcan
  have hin := path_in hcan
  have hl := path_least hcan
  by_cases h2 : (pathF h k c).1.length < 2
  · have := (valid_holders (can_at hcan).1).2.2.1; omega
  · have h1 := hp.climb ((pathF h k c).1.length - 2) (by omega)
    have h3 := hin _ (gd_mem (pathF h k c).1 ((pathF h k c).1.length - 2) (by omega))
    have h0 := hp.zero
    rw [h0] at h1; simp only at h1
    omega
end Go.Proofs.YtndhglacgiidbaaGreatDoor.Rt
namespace Go.Proofs.YtndhglacgiidbaaGreatDoor.Rt
open Go.Vai Go
open Nat (reduceEqDiff reduceMul reduceAdd reduceDiv reduceLeDiff)
open Int (reduceToNat reduceNe reduceEq reduceLT reduceLE)
section
variable {h k : List Int} {lag c : Int}
end
section
variable {h k : List Int} {lag c : Int}
end
end Go.Proofs.YtndhglacgiidbaaGreatDoor.Rt
set_option maxRecDepth 100000
namespace Go.Proofs.YtndhglacgiidbaaGreatDoor.Rt
open Go.Vai Go Go.Proofs Go.Proofs.YtndhglacgiidbaaGreatDoor
open Nat (reduceEqDiff reduceMul reduceAdd reduceDiv reduceLeDiff)
open Int (reduceToNat reduceNe reduceEq reduceLT reduceLE)
theorem mo : Tryz.prog.follows .mixedOrders = true := by kernel_rfl
theorem pick_ev (c n : Int) (hc : R64 c) (hn : 0 < n) : Ev Tryz.prog 48 [I c, I n] (I (pickF c n)) := by
  obtain ⟨h1, h2⟩ := hc
  refine ev_of Tryz.func48 rfl (by kernel_rfl) mo (Nat.le_of_ble_eq_true rfl) ?_
  simp -implicitDefEqProofs (disch := omega) only [go_sem, Tryz.ntmps48]
  refine branch_mk (fun h => ?_) (fun h => ?_) <;> simp -implicitDefEqProofs (disch := omega) only [go_sem, Tryz.results48]
  · rw [show (0 - (c+1)) = -(c+1) from by omega]; simp [pickF, h]
  · simp [pickF, h]
theorem isWithin_ev (n lo hi : Int) : Ev Tryz.prog 76 [I n, I lo, I hi] (B (inF n lo hi)) := by
  refine ev_of Tryz.func76 rfl (by kernel_rfl) mo (Nat.le_of_ble_eq_true rfl) ?_
  simp -implicitDefEqProofs (disch := omega) only [go_sem, Tryz.ntmps76]
  refine branch_mk (fun h => ?_) (fun h => ?_) <;> simp -implicitDefEqProofs (disch := omega) only [go_sem, Tryz.results76]
  · simp [inF, h]
  · simp [inF, h]
theorem isNone_ev (c : Int) : Ev Tryz.prog 128 [I c] (B (!inF c (-1) 7)) := by
  refine ev_of Tryz.func128 rfl (by kernel_rfl) mo (Nat.le_of_ble_eq_true rfl) ?_
  simp -implicitDefEqProofs (disch := omega) only [go_sem, Tryz.ntmps128]
  refine callC_at (isWithin_ev _ _ _) ?_
  simp -implicitDefEqProofs (disch := omega) only [go_sem, Tryz.results128]
theorem index_ev (l : List Int) (hl : l.length ≤ 1000000) : Ev Tryz.prog 149 [SL l, .clo 128 []] (I (findF l 0 l.length)) := by
  refine ev_of Tryz.func149 rfl (by kernel_rfl) mo (Nat.le_of_ble_eq_true rfl) ?_
  simp -implicitDefEqProofs (disch := omega) only [go_sem, Tryz.ntmps149]
  refine loopC_mk (fun n E σ => ∃ v : Nat, v + n = l.length ∧ E 0 = SL l ∧ E 1 = .clo 128 [] ∧ E 7 = I l.length ∧ E 8 = I v ∧ findF l 0 l.length = findF l v n) l.length ⟨0, by omega, ?_⟩ ?_
  · simp -implicitDefEqProofs (disch := omega) only [go_sem]
    simp
  · rintro n E σ ⟨v, hv, h0, h1, h7, h8, hall⟩
    simp -implicitDefEqProofs (disch := omega) only [go_sem, h0, h1, h7, h8]
    refine branch_mk (fun hc => ?_) (fun hc => ?_)
    · simp -implicitDefEqProofs (disch := omega) only [go_sem, h0, h1, h7, h8]
      refine callC_at (isNone_ev _) ?_
      simp -implicitDefEqProofs (disch := omega) only [go_sem, h0, h1, h7, h8]
      obtain ⟨m, rfl⟩ : ∃ m, n = m + 1 := ⟨n - 1, by omega⟩
      refine branch_mk (fun hb => ?_) (fun hb => ?_)
      · simp -implicitDefEqProofs (disch := omega) only [go_sem, Tryz.results149]
        rw [hall]; simp [findF, hb]
      · simp -implicitDefEqProofs (disch := omega) only [go_sem, h0, h1, h7, h8]
        refine againQ_mk m (by omega) ⟨v + 1, by omega, ?_⟩
        simp -implicitDefEqProofs (disch := omega) only [go_sem, h0, h1, h7, h8]
        refine ⟨by simp, ?_⟩
        rw [hall]; simp [findF, hb]
    · simp -implicitDefEqProofs (disch := omega) only [go_sem, Tryz.results149]
      have : n = 0 := by omega
      subst this; rw [hall]; rfl
theorem findF_none (l : List Int) : ∀ n v, v + n = l.length → (findF l v n < 0 ↔ ∀ i, v ≤ i → i < l.length → inF (gd l i) (-1) 7 = true)
  | 0, v, hv => by simp [findF]; intro i h1 h2; omega
  | n + 1, v, hv => by
    unfold findF
    split
    · rename_i h
      constructor
      · intro h; omega
      · intro hh; rw [hh v (by omega) (by omega)] at h; cases h
    · rename_i h
      rw [findF_none l n (v + 1) (by omega)]
      constructor
      · intro hh i h1 h2
        by_cases e : i = v
        · subst e; simpa using h
        · exact hh i (by omega) h2
      · intro hh i h1 h2; exact hh i (by omega) h2
theorem all_iff {T : Type} [Inhabited T] (l : List T) (p : T → Bool) : l.all p = true ↔ ∀ i, i < l.length → p (gd l i) = true := by
  rw [List.all_eq_true]
  constructor
  · intro h i hi; exact h _ (gd_mem l i hi)
  · intro h x hx
    obtain ⟨i, hi⟩ := List.getElem?_of_mem hx
    have hlt := (List.getElem?_eq_some_iff.1 hi).1
    have := h i hlt
    rw [gd_some l i hlt] at hi; cases hi; exact this
theorem contains_ev (l : List Int) (hl : l.length ≤ 1000000) : Ev Tryz.prog 129 [SL l, .clo 128 []] (B (decide (0 ≤ findF l 0 l.length))) := by
  refine ev_of Tryz.func129 rfl (by kernel_rfl) mo (Nat.le_of_ble_eq_true rfl) ?_
  simp -implicitDefEqProofs (disch := omega) only [go_sem, Tryz.ntmps129]
  refine callC_at (index_ev l hl) ?_
  simp -implicitDefEqProofs (disch := omega) only [go_sem, Tryz.results129]
theorem holders_find (l : List Int) (h : inF l.length 1 30 = true) : (!decide (0 ≤ findF l 0 l.length)) = holdersF l := by
  have h1 := findF_none l l.length 0 (by omega)
  have h2 := all_iff l fun c => inF c (-1) 7
  unfold holdersF
  rw [h, Bool.true_and]
  by_cases hf : findF l 0 l.length < 0
  · rw [h2.2 fun i hi => h1.1 hf i (by omega) hi]
    simp; omega
  · have : (l.all fun c => inF c (-1) 7) = false := by
      cases hh : l.all fun c => inF c (-1) 7 with
      | false => rfl
      | true => exact absurd (h1.2 fun i _ hi => h2.1 hh i hi) hf
    rw [this]; simp; omega
theorem areHolders_ev (l : List Int) (hl : l.length ≤ 9223372036854775807) : Ev Tryz.prog 101 [SL l] (B (holdersF l)) := by
  refine ev_of Tryz.func101 rfl (by kernel_rfl) mo (Nat.le_of_ble_eq_true rfl) ?_
  simp -implicitDefEqProofs (disch := omega) only [go_sem, Tryz.ntmps101]
  refine callC_at (isWithin_ev _ _ _) ?_
  simp -implicitDefEqProofs (disch := omega) only [go_sem]
  refine branch_mk (fun hb => ?_) (fun hb => ?_)
  · simp -implicitDefEqProofs (disch := omega) only [go_sem]
    refine callC_at (contains_ev l (by simp [inF] at hb; omega)) ?_
    simp -implicitDefEqProofs (disch := omega) only [go_sem, Tryz.results101]
    rw [holders_find l hb]
  · simp -implicitDefEqProofs (disch := omega) only [go_sem, Tryz.results101]
    simp [holdersF, hb]
end Go.Proofs.YtndhglacgiidbaaGreatDoor.Rt
set_option maxRecDepth 100000
namespace Go.Proofs.YtndhglacgiidbaaGreatDoor.Rt
open Go.Vai Go Go.Proofs Go.Proofs.YtndhglacgiidbaaGreatDoor
open Nat (reduceEqDiff reduceMul reduceAdd reduceDiv reduceLeDiff)
open Int (reduceToNat reduceNe reduceEq reduceLT reduceLE)
def LBlk (l : List Int) : Blk := ⟨156, 8, [.agg (l.map I)]⟩
def partF (h : List Int) (c a : Int) (v i : Nat) : Int := if gd h v ≠ gd h (v - 1) ∧ ((1 ≤ i ∧ gd h (v - 1) = c) ∨ (2 ≤ i ∧ gd h v = c)) then max a v else a
theorem valid_ev (h k : List Int) (lag : Int) (hh : h.length ≤ 9223372036854775807) (hk : k.length ≤ 9223372036854775807) (hl : R64 lag) : Ev Tryz.prog 75 [SL h, SL k, I lag] (B (validF h k lag)) := by
  obtain ⟨hl1, hl2⟩ := hl
  refine ev_of Tryz.func75 rfl (by kernel_rfl) mo (Nat.le_of_ble_eq_true rfl) ?_
  simp -implicitDefEqProofs (disch := omega) only [go_sem, Tryz.ntmps75]
  refine callC_at (areHolders_ev h hh) ?_
  simp -implicitDefEqProofs (disch := omega) only [go_sem]
  repeat' (first | ((with_reducible refine branch_mk (fun hb => ?_) (fun hb => ?_)) <;> simp -implicitDefEqProofs (disch := omega) only [go_sem, Tryz.results75, hb]) | ((with_reducible refine callC_id ?_); refine callC_at (isWithin_ev _ _ _) ?_; try simp -implicitDefEqProofs (disch := omega) only [go_sem, Tryz.results75]))
  · simp [validF, hb]
  · simp [validF]; intro _ e; omega
  · simp [validF, hb]
  · rename_i hb1 hb2
    have hk8 : k.length = 8 := by omega
    have hho : holdersF h = true := by simpa using hb1
    have hlg : inF lag 0 10 = true := by simpa using hb
    have hlen : 1 ≤ h.length ∧ h.length ≤ 30 := by
      simp only [holdersF, Bool.and_eq_true, inF_iff] at hho; omega
    have hlag := (inF_iff _ _ _).1 hlg
    clear hb hb1 hb2 hlg hl1 hl2 hk hh
    have hin : ∀ i, i < h.length → -1 ≤ gd h i ∧ gd h i ≤ 7 := fun i hi => by
      have := hho
      simp only [holdersF, Bool.and_eq_true] at this
      exact (inF_iff _ _ _).1 ((all_iff h _).1 this.2 i hi)
    refine loopC_mk (fun n E σ => ∃ c : Nat, c + n = 8 ∧ E 0 = SL h ∧ E 1 = SL k ∧ E 2 = I lag ∧ E 7 = I (h.length - 1) ∧ E 8 = .ptr 159383680 8 0 0 ∧ E 31 = I c ∧
      ∃ l, σ 159383680 = some (LBlk l) ∧ l.length = 8 ∧ ∀ i, i < c → gd l i = leastF h lag i 0) 8 ⟨0, by omega, ?_⟩ ?_
    · simp -implicitDefEqProofs (disch := omega) only [go_sem]
      refine ⟨by simp, List.replicate 8 0, rfl, rfl, fun i hi => by omega⟩
    · rintro n E σ ⟨c, hc, h0, h1, h2, h7, h8, h31, l, hs, hll, hl⟩
      simp -implicitDefEqProofs (disch := omega) only [go_sem, h0, h1, h2, h7, h8, h31]
      refine branch_mk (fun hd => ?_) (fun hd => ?_)
      · simp -implicitDefEqProofs (disch := omega) only [go_sem, h0, h1, h2, h7, h8, h31, hs, LBlk]
        refine againQ_mk (n - 1) (by omega) ⟨c + 1, by omega, ?_⟩
        simp -implicitDefEqProofs (disch := omega) only [go_sem, h0, h1, h2, h7, h8, h31]
        refine ⟨by simp, _, rfl, by simpa using hll, fun i hi => ?_⟩
        rw [gd_set _ _ _ _ (by omega)]
        split
        · simp only [leastF]
        · rw [hl i (by omega)]
      · simp -implicitDefEqProofs (disch := omega) only [go_sem, h0, h1, h2, h7, h8, h31, hs]
        clear h31
        have hc8 : c = 8 := by omega
        subst hc8
        refine loopC_mk (fun n E σ => ∃ v : Nat, 1 ≤ v ∧ v + n = h.length ∧ E 0 = SL h ∧ E 1 = SL k ∧ E 2 = I lag ∧ E 7 = I (h.length - 1) ∧ E 8 = .ptr 159383680 8 0 0 ∧ E 10 = I v ∧
          ∃ l, σ 159383680 = some (LBlk l) ∧ l.length = 8 ∧ ∀ i, i < 8 → gd l i = leastF h lag i (v - 1)) (h.length - 1) ⟨1, by omega, by omega, ?_⟩ ?_
        · simp -implicitDefEqProofs (disch := omega) only [go_sem, h0, h1, h2, h7, h8]
          refine ⟨by simp, l, hs, hll, hl⟩
        · clear h0 h1 h2 h7 h8 hs hll hl l n σ E hd hc
          rintro n E σ ⟨v, hv1, hv, h0, h1, h2, h7, h8, h10, l, hs, hll, hl⟩
          simp -implicitDefEqProofs (disch := omega) only [go_sem, h0, h1, h2, h7, h8, h10]
          refine branch_mk (fun hd => ?_) (fun hd => ?_)
          · simp -implicitDefEqProofs (disch := omega) only [go_sem, h0, h1, h2, h7, h8, h10]
            have ev1 : ((v : Int) - 1).toNat = v - 1 := by omega
            have ev2 : ((v : Int) + 1).toNat - (v - 1) = 2 := by omega
            obtain ⟨m, hm, hm2, hm0, hm1⟩ : ∃ m : List Int, (h.drop (v - 1)).take 2 = m ∧ m.length = 2 ∧ gd m 0 = gd h (v - 1) ∧ gd m 1 = gd h v := by
              refine ⟨_, rfl, by simp; omega, ?_, ?_⟩
              · rw [gd_take _ _ _ (by omega), gd_drop]; rfl
              · rw [gd_take _ _ _ (by omega), gd_drop, show v - 1 + 1 = v from by omega]
            refine loopC_mk (fun n E σ => ∃ i : Nat, i + n = 2 ∧ E 0 = SL h ∧ E 1 = SL k ∧ E 2 = I lag ∧ E 7 = I (h.length - 1) ∧ E 8 = .ptr 159383680 8 0 0 ∧ E 10 = I v ∧ E 51 = SL m ∧ E 52 = I 2 ∧ E 53 = I i ∧
              ∃ l, σ 159383680 = some (LBlk l) ∧ l.length = 8 ∧ ∀ c, c < 8 → gd l c = partF h c (leastF h lag c (v - 1)) v i) 2 ⟨0, by omega, ?_⟩ ?_
            · simp -implicitDefEqProofs (disch := omega) only [go_sem, h0, h1, h2, h7, h8, h10, ev2, ev1, hm, hm2]
              refine ⟨by simp, by simp, l, hs, hll, fun c hc => ?_⟩
              rw [hl c hc]; simp [partF]
            · have hv0 := hin (v - 1) (by omega)
              have hv1 := hin v (by omega)
              clear h0 h1 h2 h7 h8 h10 hs hll hl l σ E ev2
              rintro n' E σ ⟨i, hi, h0, h1, h2, h7, h8, h10, h51, h52, h53, l, hs, hll, hl⟩
              simp -implicitDefEqProofs (disch := omega) only [go_sem, h0, h1, h2, h7, h8, h10, h51, h52, h53]
              refine branch_mk (fun hd => ?_) (fun hd => ?_)
              · have hmi : gd m i = if i = 0 then gd h (v - 1) else gd h v := by
                  split
                  · rename_i e; subst e; exact hm0
                  · rw [show i = 1 from by omega]; exact hm1
                have hmr : -1 ≤ gd m i ∧ gd m i ≤ 7 := by rw [hmi]; split <;> omega
                have same : ¬ (0 ≤ gd m i ∧ gd h v ≠ gd h (v - 1)) → ∀ c : Nat, c < 8 → partF h c (leastF h lag c (v - 1)) v i = partF h c (leastF h lag c (v - 1)) v (i + 1) := by
                  intro hn c hc
                  unfold partF
                  have : gd h v ≠ gd h (v - 1) → ¬ (gd m i = c) := fun h1 h2 => hn ⟨by omega, h1⟩
                  rw [hmi] at this
                  congr 1
                  refine propext ⟨fun ⟨h1, h2⟩ => ⟨h1, by omega⟩, fun ⟨h1, h2⟩ => ⟨h1, ?_⟩⟩
                  have := this h1
                  split at this <;> omega
                simp -implicitDefEqProofs (disch := omega) only [go_sem, h0, h1, h2, h7, h8, h10, h51, h52, h53]
                repeat' (first | ((with_reducible refine branch_mk (fun hb => ?_) (fun hb => ?_)) <;> simp -implicitDefEqProofs (disch := omega) only [go_sem, h0, h1, h2, h7, h8, h10, h51, h52, h53, hs, LBlk, ev1, hb]))
                all_goals (refine againQ_mk (n' - 1) (by omega) ⟨i + 1, by omega, ?_⟩; simp -implicitDefEqProofs (disch := omega) only [go_sem, h0, h1, h2, h7, h8, h10, h51, h52, h53, hs])
                · rename_i hb0
                  refine ⟨by simp, _, rfl, by simpa using hll, fun c hc => ?_⟩
                  rw [gd_set _ _ _ _ (by omega), hl _ (by omega), hl _ hc]
                  by_cases e : c = (gd m i).toNat
                  · rw [if_pos e, ← e]
                    have e' : gd m i = c := by omega
                    rw [hmi] at e'
                    have h1 : gd h v ≠ gd h (v - 1) := hb
                    have hA : partF h c (leastF h lag c (v - 1)) v i = leastF h lag c (v - 1) := by
                      unfold partF; rw [if_neg]; rintro ⟨_, hx⟩
                      split at e' <;> omega
                    have hB : partF h c (leastF h lag c (v - 1)) v (i + 1) = max (leastF h lag c (v - 1)) v := by
                      unfold partF; rw [if_pos]; refine ⟨h1, ?_⟩
                      split at e'
                      · exact .inl ⟨by omega, e'⟩
                      · exact .inr ⟨by omega, e'⟩
                    rw [hA, hB]
                  · rw [if_neg e]
                    have e' : ¬ gd m i = c := by omega
                    rw [hmi] at e'
                    unfold partF
                    congr 1
                    refine propext ⟨fun ⟨h1, h2⟩ => ⟨h1, by omega⟩, fun ⟨h1, h2⟩ => ⟨h1, ?_⟩⟩
                    split at e' <;> omega
                · rename_i hb0
                  exact ⟨by simp, l, rfl, hll, fun c hc => by rw [hl c hc]; exact same (by omega) c hc⟩
                · exact ⟨by simp, l, rfl, hll, fun c hc => by rw [hl c hc]; exact same (by omega) c hc⟩
              · simp -implicitDefEqProofs (disch := omega) only [go_sem, h0, h1, h2, h7, h8, h10]
                refine againQ_mk (n - 1) (by omega) ⟨v + 1, by omega, by omega, ?_⟩
                simp -implicitDefEqProofs (disch := omega) only [go_sem, h0, h1, h2, h7, h8, h10]
                refine ⟨by simp, l, hs, hll, fun c hc => ?_⟩
                rw [hl c hc, show v + 1 - 1 = (v - 1) + 1 from by omega]
                rw [leastF.eq_2, show v - 1 + 1 = v from by omega]
                unfold partF turnsF
                congr 1
                refine propext ⟨fun ⟨a, b⟩ => ⟨a, by omega⟩, fun ⟨a, b⟩ => ⟨a, by omega⟩⟩
          · simp -implicitDefEqProofs (disch := omega) only [go_sem, h0, h1, h2, h7, h8, h10]
            clear h10
            have hl' : ∀ i : Nat, i < 8 → gd l i = leastF h lag i (h.length - 1) := fun i hi => by rw [hl i hi]; congr 1; omega
            clear hl hv hv1 hd
            refine loopC_mk (fun n E σ => ∃ c : Nat, c + n = 8 ∧ E 0 = SL h ∧ E 1 = SL k ∧ E 2 = I lag ∧ E 7 = I (h.length - 1) ∧ E 8 = .ptr 159383680 8 0 0 ∧ E 79 = SL k ∧ E 80 = I 8 ∧ E 81 = I c ∧ σ 159383680 = some (LBlk l) ∧
              ∀ i : Nat, i < c → (decide (gd k i = -1) || inF (gd k i) (leastF h lag i (h.length - 1)) ((h.length : Int) - 1)) = true) 8 ⟨0, by omega, ?_⟩ ?_
            · simp -implicitDefEqProofs (disch := omega) only [go_sem, h0, h1, h2, h7, h8]
              exact ⟨by simp [hk8], by simp, hs, fun i hi => by omega⟩
            · clear h0 h1 h2 h7 h8 hs σ E
              rintro n' E σ ⟨c, hc, h0, h1, h2, h7, h8, h79, h80, h81, hs, hall⟩
              simp -implicitDefEqProofs (disch := omega) only [go_sem, h0, h1, h2, h7, h8, h79, h80, h81]
              refine branch_mk (fun hd => ?_) (fun hd => ?_)
              · simp -implicitDefEqProofs (disch := omega) only [go_sem, h0, h1, h2, h7, h8, h79, h80, h81]
                have no : ¬ ((decide (gd k c = -1) || inF (gd k c) (leastF h lag c (h.length - 1)) ((h.length : Int) - 1)) = true) → validF h k lag = false := fun hn => by
                  cases hv : validF h k lag with
                  | false => rfl
                  | true =>
                    simp only [validF, Bool.and_eq_true] at hv
                    exact absurd (List.all_eq_true.1 hv.2 c (List.mem_range.2 (by omega))) hn
                have yes : (decide (gd k c = -1) || inF (gd k c) (leastF h lag c (h.length - 1)) ((h.length : Int) - 1)) = true → ∀ i : Nat, i < c + 1 → gd k i = -1 ∨ inF (gd k i) (leastF h lag i (h.length - 1)) ((h.length : Int) - 1) = true := fun hy i hi => by
                  by_cases e : i = c
                  · subst e; simpa using hy
                  · simpa using hall i (by omega)
                repeat' (first | ((with_reducible refine branch_mk (fun hb => ?_) (fun hb => ?_)) <;> simp -implicitDefEqProofs (disch := omega) only [go_sem, h0, h1, h2, h7, h8, h79, h80, h81, hs, LBlk, Tryz.results75, hb]) | ((with_reducible refine callC_id ?_); refine callC_at (isWithin_ev _ _ _) ?_; try simp -implicitDefEqProofs (disch := omega) only [go_sem, h0, h1, h2, h7, h8, h79, h80, h81, hs, LBlk, Tryz.results75]))
                · rename_i hb0
                  rw [hl' c (by omega)] at hb
                  rw [no (by simp [hb, hb0])]
                · rename_i hb0
                  rw [hl' c (by omega)] at hb
                  refine againQ_mk (n' - 1) (by omega) ⟨c + 1, by omega, ?_⟩
                  simp -implicitDefEqProofs (disch := omega) only [go_sem, h0, h1, h2, h7, h8, h79, h80, h81, hs, LBlk]
                  exact ⟨by simp, yes (by simp at hb; simp [hb])⟩
                · refine againQ_mk (n' - 1) (by omega) ⟨c + 1, by omega, ?_⟩
                  simp -implicitDefEqProofs (disch := omega) only [go_sem, h0, h1, h2, h7, h8, h79, h80, h81, hs, LBlk]
                  exact ⟨by simp, yes (by simp at hb; simp [hb])⟩
              · simp -implicitDefEqProofs (disch := omega) only [go_sem, h0, h1, h2, h7, h8, Tryz.results75]
                have : validF h k lag = true := by
                  simp only [validF, Bool.and_eq_true]
                  refine ⟨⟨⟨hho, by simp [hk8]⟩, (inF_iff _ _ _).2 hlag⟩, List.all_eq_true.2 fun i hi => hall i ?_⟩
                  have := List.mem_range.1 hi; omega
                rw [this]
end Go.Proofs.YtndhglacgiidbaaGreatDoor.Rt
set_option maxRecDepth 100000
namespace Go.Proofs.YtndhglacgiidbaaGreatDoor.Rt
open Go.Vai Go Go.Proofs Go.Proofs.YtndhglacgiidbaaGreatDoor
open Nat (reduceEqDiff reduceMul reduceAdd reduceDiv reduceLeDiff)
open Int (reduceToNat reduceNe reduceEq reduceLT reduceLE)
theorem decideF_1 {h k : List Int} {c u : Int} (h1 : gd h (max (gd k c.toNat) u).toNat = c) : decideF h k c u = (max (gd k c.toNat) u, -1, 1) := by
  unfold decideF; rw [if_pos h1]
theorem decideF_2 {h k : List Int} {c u : Int} (h1 : ¬ gd h (max (gd k c.toNat) u).toNat = c) (h2 : gd h (max (gd k c.toNat) u).toNat < 0) : decideF h k c u = (max (gd k c.toNat) u, -1, 2) := by
  unfold decideF; rw [if_neg h1, if_pos h2]
theorem decideF_3 {h k : List Int} {c u : Int} (h1 : ¬ gd h (max (gd k c.toNat) u).toNat = c) (h2 : ¬ gd h (max (gd k c.toNat) u).toNat < 0) (h3 : gd k (gd h (max (gd k c.toNat) u).toNat).toNat < 0) : decideF h k c u = (max (gd k c.toNat) u, -1, 3) := by
  unfold decideF; rw [if_neg h1, if_neg h2, if_pos h3]
theorem decideF_4 {h k : List Int} {c u : Int} (h1 : ¬ gd h (max (gd k c.toNat) u).toNat = c) (h2 : ¬ gd h (max (gd k c.toNat) u).toNat < 0) (h3 : ¬ gd k (gd h (max (gd k c.toNat) u).toNat).toNat < 0) : decideF h k c u = (max (gd k c.toNat) u, gd h (max (gd k c.toNat) u).toNat, 0) := by
  unfold decideF; rw [if_neg h1, if_neg h2, if_neg h3]
theorem decide_ev (h k : List Int) (c u : Int) (hc : 0 ≤ c ∧ c < k.length) (hw : 0 ≤ max (gd k c.toNat) u ∧ max (gd k c.toNat) u < h.length) (hx : gd h (max (gd k c.toNat) u).toNat < k.length) : Ev Tryz.prog 78 [SL h, SL k, I c, I u] (T3 (decideF h k c u)) := by
  refine ev_of Tryz.func78 rfl (by kernel_rfl) mo (Nat.le_of_ble_eq_true rfl) ?_
  simp -implicitDefEqProofs (disch := omega) only [go_sem, Tryz.ntmps78]
  repeat' (first | ((with_reducible refine branch_mk (fun hb => ?_) (fun hb => ?_)) <;> simp -implicitDefEqProofs (disch := omega) only [go_sem, Tryz.results78, hb]))
  · rw [decideF_1 (by omega)]; rfl
  · rw [decideF_2 (by omega) (by omega)]; rfl
  · rw [decideF_3 (by omega) (by omega) (by omega)]; rfl
  · rw [decideF_4 (by omega) (by omega) (by omega)]; rfl
theorem canCall_ev (h k : List Int) (lag c : Int) (hh : h.length ≤ 9223372036854775807) (hk : k.length ≤ 9223372036854775807) (hl : R64 lag) : Ev Tryz.prog 49 [SL h, SL k, I lag, I c] (B (canF h k lag c)) := by
  refine ev_of Tryz.func49 rfl (by kernel_rfl) mo (Nat.le_of_ble_eq_true rfl) ?_
  simp -implicitDefEqProofs (disch := omega) only [go_sem, Tryz.ntmps49]
  refine callC_at (valid_ev h k lag hh hk hl) ?_
  simp -implicitDefEqProofs (disch := omega) only [go_sem]
  refine branch_mk (fun hv => ?_) (fun hv => ?_)
  · have hv := valid_holders hv
    simp -implicitDefEqProofs (disch := omega) only [go_sem]
    refine callC_at (isWithin_ev _ _ _) ?_
    simp -implicitDefEqProofs (disch := omega) only [go_sem]
    refine branch_mk (fun hb => ?_) (fun hb => ?_)
    · have hb := (inF_iff _ _ _).1 hb
      simp -implicitDefEqProofs (disch := omega) only [go_sem, Tryz.results49]
      simp_all [canF]
    · simp -implicitDefEqProofs (disch := omega) only [go_sem, Tryz.results49]
      have hb := (inF_not _ _ _).1 (by simpa using hb)
      have : canF h k lag c = false := by
        simp only [canF, Bool.and_eq_false_iff, decide_eq_false_iff_not]
        exact .inr (.inl hb)
      rw [this]
  · simp -implicitDefEqProofs (disch := omega) only [go_sem, Tryz.results49]
    simp_all [canF]
end Go.Proofs.YtndhglacgiidbaaGreatDoor.Rt
set_option maxRecDepth 100000
namespace Go.Proofs.YtndhglacgiidbaaGreatDoor.Rt
open Go.Vai Go Go.Proofs Go.Proofs.YtndhglacgiidbaaGreatDoor
open Nat (reduceEqDiff reduceMul reduceAdd reduceDiv reduceLeDiff)
open Int (reduceToNat reduceNe reduceEq reduceLT reduceLE)
theorem least_ev (h : List Int) (lag c : Int) (h1 : 0 < h.length) (h2 : h.length < 1000000) (h3 : 0 ≤ lag) (h4 : lag < 1000000) : Ev Tryz.prog 47 [SL h, I lag, I c] (I (leastF h lag c (h.length - 1))) := by
  refine ev_of Tryz.func47 rfl (by kernel_rfl) mo (Nat.le_of_ble_eq_true rfl) ?_
  simp -implicitDefEqProofs (disch := omega) only [go_sem, Tryz.ntmps47]
  refine loopC_mk (fun n E σ => ∃ v : Nat, 1 ≤ v ∧ v + n = h.length ∧ E 0 = SL h ∧ E 1 = I lag ∧ E 2 = I c ∧ E 7 = I (h.length - 1) ∧ E 8 = I (leastF h lag c (v - 1)) ∧ E 9 = I v ∧ E 6 = I 0) (h.length - 1) ⟨1, by omega, by omega, ?_⟩ ?_
  · simp -implicitDefEqProofs (disch := omega) only [go_sem]
    simp [leastF]
  · rintro n E σ ⟨v, hv1, hvn, h0, h1, h2, h7, h8, h9, h6⟩
    simp -implicitDefEqProofs (disch := omega) only [go_sem, h0, h1, h2, h7, h8, h9]
    refine branch_mk (fun hc => ?_) (fun hc => ?_)
    · have ev1 : ((v : Int) - 1).toNat = v - 1 := by omega
      simp -implicitDefEqProofs (disch := omega) only [go_sem, h0, h1, h2, h7, h8, h9, ev1]
      have up : turnsF h c v → leastF h lag c v = max (leastF h lag c (v - 1)) v := fun ht => by
        rw [show v = (v - 1) + 1 from by omega] at ht ⊢
        rw [leastF.eq_2, if_pos ht]; rfl
      have no : ¬ turnsF h c v → leastF h lag c v = leastF h lag c (v - 1) := fun ht => by
        rw [show v = (v - 1) + 1 from by omega] at ht ⊢
        rw [leastF.eq_2, if_neg ht]; rfl
      repeat' (first | ((with_reducible refine branch_mk (fun hb => ?_) (fun hb => ?_)) <;> simp -implicitDefEqProofs (disch := omega) only [go_sem, h0, h1, h2, h7, h8, h9, h6, ev1, hb]))
      all_goals
        refine againQ_mk (n - 1) (by omega) ⟨v + 1, by omega, by omega, ?_⟩
        simp -implicitDefEqProofs (disch := omega) only [go_sem, h0, h1, h2, h7, h8, h9, h6]
        refine ⟨?_, by simp⟩
        rw [show v + 1 - 1 = v from by omega]
        first
          | (rw [up (by unfold turnsF; simp only [ev1] at *; omega)]; done)
          | (rw [no (by unfold turnsF; simp only [ev1] at *; omega)]; done)
    · simp -implicitDefEqProofs (disch := omega) only [go_sem, h0, h1, h2, h7, h8, h9, Tryz.results47]
      rw [show v - 1 = h.length - 1 from by omega]
theorem known_ev (h : List Int) (lag : Int) (y : List Int) (h1 : 0 < h.length) (h2 : h.length < 1000000) (h3 : 0 ≤ lag) (h4 : lag < 1000000) (hy : y.length ≤ 9223372036854775807) (hyr : ∀ a ∈ y, R64 a) : Ev Tryz.prog 16 [SL h, I lag, SL y] (.new 3 1 ((knownF h lag y).map I)) := by
  refine ev_of Tryz.func16 rfl (by kernel_rfl) mo (Nat.le_of_ble_eq_true rfl) ?_
  simp -implicitDefEqProofs (disch := omega) only [go_sem, Tryz.ntmps16]
  refine loopC_mk (fun n E σ => ∃ c : Nat, c + n = 8 ∧ E 0 = SL h ∧ E 1 = I lag ∧ E 2 = SL y ∧ E 8 = I c ∧ E 7 = .own 35651696 1 0 c ∧ ∃ l, σ 35651696 = some ⟨3, 1, l.map I⟩ ∧ l.length = c ∧ ∀ i, i < c → gd l i = knownF1 h lag y i) 8 ⟨0, by omega, ?_⟩ ?_
  · simp -implicitDefEqProofs (disch := omega) only [go_sem]
    exact ⟨by simp, [], rfl, rfl, fun i hi => by omega⟩
  · rintro n E σ ⟨c, hc, h0, h1, h2, h8, h7, l, hs, hll, hl⟩
    simp -implicitDefEqProofs (disch := omega) only [go_sem, h0, h1, h2, h8]
    refine branch_mk (fun hd => ?_) (fun hd => ?_)
    · simp -implicitDefEqProofs (disch := omega) only [go_sem, h0, h1, h2, h8]
      refine callC_at (least_ev _ _ _ (by omega) (by omega) (by omega) (by omega)) ?_
      simp -implicitDefEqProofs (disch := omega) only [go_sem, h0, h1, h2, h8, h7]
      have hlt := leastF_lt (h := h) (by omega) lag c h3
      have hln := leastF_nonneg h lag c (h.length - 1)
      have hm : R64 (gd y c) := by
        by_cases hb : c < y.length
        · exact hyr _ (gd_mem y c hb)
        · rw [gd_none y c (by omega)]; exact ⟨by decide, by decide⟩
      have hp1 := pickF_in (c := (gd y c).tdiv 16) (n := h.length - leastF h lag c (h.length - 1)) (by omega)
      obtain ⟨hm1, hm2⟩ := hm
      have hgo : ∀ x, x = knownF1 h lag y c → ∀ i, i < c + 1 → gd (l ++ [x]) i = knownF1 h lag y i := fun x hx i hi => by
        by_cases e : i = c
        · subst e; rw [gd_append_right _ _ _ (by omega), hll, Nat.sub_self, gd_cons_zero, hx]
        · rw [gd_append_left _ _ _ (by omega), hl i (by omega)]
      refine branch_mk (fun hb => ?_) (fun hb => ?_)
      · simp -implicitDefEqProofs (disch := omega) only [go_sem, h0, h1, h2, h8, h7]
        refine callC_at (pick_ev _ _ (R64_tdiv (by omega) ⟨hm1, hm2⟩) (by omega)) ?_
        simp -implicitDefEqProofs (disch := omega) only [go_sem, h0, h1, h2, h8, h7]
        refine callC_at (pick_ev _ _ ⟨hm1, hm2⟩ (by omega)) ?_
        simp -implicitDefEqProofs (disch := omega) only [go_sem, h0, h1, h2, h8, h7]
        refine branch_mk (fun hb => ?_) (fun hb => ?_)
        · simp -implicitDefEqProofs (disch := omega) only [go_sem, h0, h1, h2, h8, h7, hs, hll]
          refine againQ_mk (n - 1) (by omega) ⟨c + 1, by omega, ?_⟩
          simp -implicitDefEqProofs (disch := omega) only [go_sem, h0, h1, h2, h8, h7, hs, hll]
          exact ⟨by simp, _, rfl, by simp [hll], hgo _ (by unfold knownF1; rw [if_pos (by omega)])⟩
        · simp -implicitDefEqProofs (disch := omega) only [go_sem, h0, h1, h2, h8, h7, hs, hll]
          refine againQ_mk (n - 1) (by omega) ⟨c + 1, by omega, ?_⟩
          simp -implicitDefEqProofs (disch := omega) only [go_sem, h0, h1, h2, h8, h7, hs, hll]
          exact ⟨by simp, _, rfl, by simp [hll], hgo _ (by unfold knownF1; rw [if_neg (by omega)])⟩
      · simp -implicitDefEqProofs (disch := omega) only [go_sem, h0, h1, h2, h8, h7]
        have hm0 : gd y c = 0 := gd_none y c (by omega)
        rw [hm0] at hp1 hm1 hm2
        refine callC_at (pick_ev _ _ (R64_tdiv (by omega) ⟨hm1, hm2⟩) (by omega)) ?_
        simp -implicitDefEqProofs (disch := omega) only [go_sem, h0, h1, h2, h8, h7]
        refine callC_at (pick_ev _ _ ⟨hm1, hm2⟩ (by omega)) ?_
        simp -implicitDefEqProofs (disch := omega) only [go_sem, h0, h1, h2, h8, h7]
        refine branch_mk (fun hb => ?_) (fun hb => ?_)
        · simp -implicitDefEqProofs (disch := omega) only [go_sem, h0, h1, h2, h8, h7, hs, hll]
          refine againQ_mk (n - 1) (by omega) ⟨c + 1, by omega, ?_⟩
          simp -implicitDefEqProofs (disch := omega) only [go_sem, h0, h1, h2, h8, h7, hs, hll]
          exact ⟨by simp, _, rfl, by simp [hll], hgo _ (by unfold knownF1; rw [hm0, if_pos (by omega)])⟩
        · simp -implicitDefEqProofs (disch := omega) only [go_sem, h0, h1, h2, h8, h7, hs, hll]
          refine againQ_mk (n - 1) (by omega) ⟨c + 1, by omega, ?_⟩
          simp -implicitDefEqProofs (disch := omega) only [go_sem, h0, h1, h2, h8, h7, hs, hll]
          exact ⟨by simp, _, rfl, by simp [hll], hgo _ (by unfold knownF1; rw [hm0, if_neg (by omega)])⟩
    · simp -implicitDefEqProofs (disch := omega) only [go_sem, h0, h1, h2, h8, h7, hs, Tryz.results16]
      rw [show knownF h lag y = l from gd_ext (by rw [knownF_length]; omega) fun i hi => by
        rw [knownF_length] at hi
        rw [knownF_at _ _ _ _ hi, hl i (by omega)]]
end Go.Proofs.YtndhglacgiidbaaGreatDoor.Rt
set_option maxRecDepth 100000
namespace Go.Proofs.YtndhglacgiidbaaGreatDoor.Rt
open Go.Vai Go Go.Proofs Go.Proofs.YtndhglacgiidbaaGreatDoor
open Nat (reduceEqDiff reduceMul reduceAdd reduceDiv reduceLeDiff)
open Int (reduceToNat reduceNe reduceEq reduceLT reduceLE)
theorem same_ev (a b : List (Int × Int)) (ha : a.length ≤ 9223372036854775807) (hb : b.length ≤ 9223372036854775807) : Ev Tryz.prog 19 [HL a, HL b] (B (decide (a = b))) := by
  refine ev_of Tryz.func19 rfl (by kernel_rfl) mo (Nat.le_of_ble_eq_true rfl) ?_
  simp -implicitDefEqProofs (disch := omega) only [go_sem, Tryz.ntmps19]
  refine branch_mk (fun hb => ?_) (fun hb => ?_)
  · simp -implicitDefEqProofs (disch := omega) only [go_sem, Tryz.results19]
    have : ¬ a = b := fun e => by subst e; omega
    simp [this]
  · simp -implicitDefEqProofs (disch := omega) only [go_sem]
    refine loopC_mk (fun n E σ => ∃ v : Nat, v + n = a.length ∧ E 0 = HL a ∧ E 1 = HL b ∧ E 5 = I v ∧ ∀ i, i < v → gd a i = gd b i) a.length ⟨0, by omega, ?_⟩ ?_
    · simp -implicitDefEqProofs (disch := omega) only [go_sem]
      simp
    · rintro n E σ ⟨v, hv, h0, h1, h5, hall⟩
      simp -implicitDefEqProofs (disch := omega) only [go_sem, h0, h1, h5]
      refine branch_mk (fun hc => ?_) (fun hc => ?_)
      · simp -implicitDefEqProofs (disch := omega) only [go_sem, h0, h1, h5]
        refine branch_mk (fun hd => ?_) (fun hd => ?_)
        · simp -implicitDefEqProofs (disch := omega) only [go_sem, Tryz.results19]
          have : ¬ a = b := fun e => by subst e; simp at hd
          simp [this]
        · simp -implicitDefEqProofs (disch := omega) only [go_sem, h0, h1, h5]
          refine againQ_mk (n - 1) (by omega) ⟨v + 1, by omega, ?_⟩
          simp -implicitDefEqProofs (disch := omega) only [go_sem, h0, h1, h5]
          refine ⟨by simp, fun i hi => ?_⟩
          by_cases e : i = v
          · subst e
            simp at hd
            exact Prod.ext hd.1 hd.2
          · exact hall i (by omega)
      · simp -implicitDefEqProofs (disch := omega) only [go_sem, Tryz.results19]
        have : a = b := gd_ext (by omega) fun i hi => hall i (by omega)
        simp [this]
end Go.Proofs.YtndhglacgiidbaaGreatDoor.Rt
set_option maxRecDepth 100000
namespace Go.Proofs.YtndhglacgiidbaaGreatDoor.Rt
open Go.Vai Go Go.Proofs Go.Proofs.YtndhglacgiidbaaGreatDoor
open Nat (reduceEqDiff reduceMul reduceAdd reduceDiv reduceLeDiff)
open Int (reduceToNat reduceNe reduceEq reduceLT reduceLE)
@[go_sem] theorem append_hp (l : List (Int × Int)) (a b : Int) : l.map HP ++ [.agg [.v (.int .i64 a), .v (.int .i64 b)]] = (l ++ [(a, b)]).map HP := by simp
@[go_sem] theorem flatL_hps (l : List (Int × Int)) : AV.flatL (l.map HP) = true := flatL_map l HP fun _ => rfl
@[go_sem] theorem namesL_hps (p : Nat → Bool) (l : List (Int × Int)) : AV.namesL p (l.map HP) = false := namesL_map p l HP fun _ => rfl
@[go_sem] theorem allOK_hps (l : List (Int × Int)) : allOK 2 (l.map HP) = true := allOK_map 2 l HP fun _ => ⟨rfl, rfl⟩
theorem at_decide {h k : List Int} {lag c u : Int} (hv : validF h k lag = true) (ha : AtF h k c u) :
    (0 ≤ c ∧ c < k.length) ∧ (0 ≤ max (gd k c.toNat) u ∧ max (gd k c.toNat) u < h.length) ∧ (-1 ≤ gd h (max (gd k c.toNat) u).toNat ∧ gd h (max (gd k c.toNat) u).toNat < k.length) := by
  obtain ⟨h1, h2, h3, h4, h5, h6⟩ := ha
  obtain ⟨g1, g2, g3, g4, g5, g6⟩ := valid_holders hv
  have hk := valid_known' hv c.toNat (by omega)
  have hw := holders_at g1 (max (gd k c.toNat) u).toNat (by omega)
  omega
end Go.Proofs.YtndhglacgiidbaaGreatDoor.Rt
set_option maxRecDepth 100000
namespace Go.Proofs.YtndhglacgiidbaaGreatDoor.Rt
open Go.Vai Go Go.Proofs Go.Proofs.YtndhglacgiidbaaGreatDoor
open Nat (reduceEqDiff reduceMul reduceAdd reduceDiv reduceLeDiff)
open Int (reduceToNat reduceNe reduceEq reduceLT reduceLE)
def stepsF (h k : List Int) : Nat → Int → Int → List (Int × Int × Int)
  | 0, _, _ => []
  | n + 1, c, u =>
    if (decideF h k c u).2.2 = 0 then (c, (decideF h k c u).1, 0) :: stepsF h k n (decideF h k c u).2.1 (decideF h k c u).1
    else [(c, (decideF h k c u).1, (decideF h k c u).2.2)]
abbrev YP (x : Int × Int × Int) : List AV := [HP (x.1, x.2.1), I x.2.2]
@[go_sem] theorem namesL_steps (p : Nat → Bool) (l : List (Int × Int × Int)) : AV.namesL p ((l.map YP).map .tup) = false := by
  rw [List.map_map]; exact namesL_map p l _ fun _ => rfl
theorem hops_sok (h k : List Int) (lag c : Int) (a b d : Nat) (σ : Store) (hcan : canF h k lag c = true) (ha : σ a = some ⟨24, 1, [SL h]⟩) (hb : σ b = some ⟨24, 1, [SL k]⟩) (hd : σ d = some ⟨3, 1, [I c]⟩)
    (hab : a ≠ b) (had : a ≠ d) (hbd : b ≠ d) (hA : a / 16 < 10223616 ∨ 10323616 ≤ a / 16) (hB : b / 16 < 10223616 ∨ 10323616 ≤ b / 16) (hD : d / 16 < 10223616 ∨ 10323616 ≤ d / 16) :
    SOK Tryz.prog 77 [.ptr a 1 0 0, .ptr b 1 0 0, .ptr d 1 0 0] σ ((stepsF h k (h.length + 1) c (-1)).map YP) := by
  refine sok_of Tryz.func77 rfl (by kernel_rfl) mo (Nat.le_of_ble_eq_true rfl) ?_ rfl fun l => ?_
  · exact namesL_steps allB _
  · simp -implicitDefEqProofs (disch := omega) only [go_sem, Tryz.ntmps77]
    obtain ⟨hv, hat⟩ := can_at hcan
    have eA : (a / 16 = 10223630) = False := by simp; omega
    have eB : (b / 16 = 10223630) = False := by simp; omega
    have eD : (d / 16 = 10223630) = False := by simp; omega
    refine loopC_mk (fun n E σ => ∃ (c u : Int), AtF h k c u ∧ (h.length : Int) - u ≤ n ∧ E 0 = .yld l ∧ E 1 = .ptr a 1 0 0 ∧ E 2 = .ptr b 1 0 0 ∧ E 3 = .ptr d 1 0 0 ∧ E 5 = I u ∧ E 31 = .tup (((stepsF h k n c u).map YP).map .tup) ∧
      σ a = some ⟨24, 1, [SL h]⟩ ∧ σ b = some ⟨24, 1, [SL k]⟩ ∧ σ d = some ⟨3, 1, [I c]⟩) (h.length + 1) ⟨c, -1, hat, by omega, ?_⟩ ?_
    · simp -implicitDefEqProofs (disch := omega) only [go_sem, ha, hb, hd]
    · clear hat ha hb hd hcan c σ
      rintro n E σ ⟨c, u, hat, hn, h0, h1, h2, h3, h5, h31, ha, hb, hd⟩
      obtain ⟨d1, d2, d3⟩ := at_decide hv hat
      obtain ⟨s1, s2, s3, s4, s5⟩ := at_step hv hat
      obtain ⟨m, rfl⟩ : ∃ m, n = m + 1 := ⟨n - 1, by have := hat.2.2.2.2.1; omega⟩
      by_cases he : (decideF h k c u).2.2 = 0
      · have hst : stepsF h k (m + 1) c u = (c, (decideF h k c u).1, 0) :: stepsF h k m (decideF h k c u).2.1 (decideF h k c u).1 := by rw [stepsF, if_pos he]
        rw [hst] at h31
        simp -implicitDefEqProofs (disch := omega) only [go_sem, h0, h1, h2, h3, h5, ha, hb, hd]
        refine callC_at (decide_ev h k c u d1 d2 d3.2) ?_
        simp -implicitDefEqProofs (disch := omega) only [go_sem, T3, h0, h1, h2, h3, h5, h31, ha, hb, hd, eA, eB, eD, he]
        rcases s5 with ⟨_, s6, s7, s8⟩ | ⟨_, s6⟩
        · refine ⟨againQ_mk m (by omega) ⟨_, _, s8, by omega, ?_⟩, ?_⟩
          · simp -implicitDefEqProofs (disch := omega) only [go_sem, T3, h0, h1, h2, h3, h5, h31, ha, hb, hd, eA, eB, eD, he]
            exact ⟨by rw [if_neg had], by rw [if_neg hbd]⟩
          · exact .inr trivial
        · omega
      · have hst : stepsF h k (m + 1) c u = [(c, (decideF h k c u).1, (decideF h k c u).2.2)] := by rw [stepsF, if_neg he]
        rw [hst] at h31
        simp -implicitDefEqProofs (disch := omega) only [go_sem, h0, h1, h2, h3, h5, ha, hb, hd]
        refine callC_at (decide_ev h k c u d1 d2 d3.2) ?_
        simp -implicitDefEqProofs (disch := omega) only [go_sem, T3, h0, h1, h2, h3, h5, h31, ha, hb, hd, eA, eB, eD, he]
        exact ⟨.inl trivial, .inr trivial⟩
end Go.Proofs.YtndhglacgiidbaaGreatDoor.Rt
set_option maxRecDepth 100000
namespace Go.Proofs.YtndhglacgiidbaaGreatDoor.Rt
open Go.Vai Go Go.Proofs Go.Proofs.YtndhglacgiidbaaGreatDoor
open Nat (reduceEqDiff reduceMul reduceAdd reduceDiv reduceLeDiff)
open Int (reduceToNat reduceNe reduceEq reduceLT reduceLE)
theorem hops_ev (h k : List Int) (c : Int) : Ev Tryz.prog 50 [SL h, SL k, I c] (.clo 77 [.nptr 24 1 [SL h], .nptr 24 1 [SL k], .nptr 3 1 [I c]]) := by
  refine ev_of Tryz.func50 rfl (by kernel_rfl) mo (Nat.le_of_ble_eq_true rfl) ?_
  simp -implicitDefEqProofs (disch := omega) only [go_sem, Tryz.ntmps50, Tryz.results50]
abbrev hopOf (x : Int × Int × Int) : Int × Int := (x.1, x.2.1)
def endF (d : List (Int × Int × Int)) : Int := if d = [] then 0 else (gd d (d.length - 1)).2.2
theorem endF_snoc (d : List (Int × Int × Int)) (x : Int × Int × Int) : endF (d ++ [x]) = x.2.2 := by
  unfold endF
  rw [if_neg (by simp), gd_append_right _ _ _ (by simp)]; simp
theorem steps_walk (h k : List Int) : ∀ (n : Nat) (c u : Int), (stepsF h k n c u).map hopOf = (walkF h k n c u).1
  | 0, _, _ => rfl
  | n + 1, c, u => by
    rw [stepsF, walkF]
    split
    · simp only [List.map_cons, steps_walk h k n]
    · rfl
theorem steps_ne (h k : List Int) (n : Nat) (c u : Int) : stepsF h k (n + 1) c u ≠ [] := by rw [stepsF]; split <;> simp
theorem steps_end {h k : List Int} {lag : Int} (hv : validF h k lag = true) : ∀ (n : Nat) (c u : Int), AtF h k c u → (h.length : Int) - u ≤ n → endF (stepsF h k n c u) = (walkF h k n c u).2
  | 0, c, u, ha, hn => by have := ha.2.2.2.2.1; omega
  | n + 1, c, u, ha, hn => by
    obtain ⟨s1, s2, s3, s4, s5⟩ := at_step hv ha
    rw [stepsF, walkF]
    split
    · rename_i he
      rcases s5 with ⟨_, s6, s7, s8⟩ | ⟨_, s6⟩
      · have ih := steps_end hv n _ _ s8 (by omega)
        simp only
        rw [← ih]
        obtain ⟨m, rfl⟩ : ∃ m, n = m + 1 := ⟨n - 1, by have := s8.2.2.2.2.1; omega⟩
        have hne := steps_ne h k m (decideF h k c u).2.1 (decideF h k c u).1
        generalize stepsF h k (m + 1) (decideF h k c u).2.1 (decideF h k c u).1 = l at *
        unfold endF
        rw [if_neg (by simp), if_neg hne]
        have := List.length_pos_iff.2 hne
        rw [List.length_cons, show l.length + 1 - 1 = (l.length - 1) + 1 from by omega, gd_cons_succ]
      · omega
    · rfl
theorem path_ev (h k : List Int) (lag c : Int) (hh : h.length ≤ 9223372036854775807) (hk : k.length ≤ 9223372036854775807) (hl : R64 lag) : Ev Tryz.prog 17 [SL h, SL k, I lag, I c] (pathR h k lag c) := by
  refine ev_of Tryz.func17 rfl (by kernel_rfl) mo (Nat.le_of_ble_eq_true rfl) ?_
  simp -implicitDefEqProofs (disch := omega) only [go_sem, Tryz.ntmps17]
  refine callC_at (canCall_ev h k lag c hh hk hl) ?_
  simp -implicitDefEqProofs (disch := omega) only [go_sem]
  refine branch_mk (fun hb => ?_) (fun hb => ?_)
  · simp -implicitDefEqProofs (disch := omega) only [go_sem, Tryz.results17]
    simp [pathR, hb]
  · simp -implicitDefEqProofs (disch := omega) only [go_sem]
    have hcan : canF h k lag c = true := by simpa using hb
    refine callC_at (hops_ev h k c) ?_
    simp -implicitDefEqProofs (disch := omega) only [go_sem]
    refine awpC_range ?_
    refine range_mk [37749120, 37749121, 37749122] [37748912, 37748928] 2359396 ((stepsF h k (h.length + 1) c (-1)).map YP)
      (fun xs σ => ∃ d r, stepsF h k (h.length + 1) c (-1) = d ++ r ∧ xs = r.map YP ∧ σ 37748928 = some ⟨3, 1, [I (endF d)]⟩ ∧ σ 37748912 = some ⟨46, 1, [.own 37748913 2 0 d.length]⟩ ∧ σ 37748913 = some ⟨58, 2, (d.map hopOf).map HP⟩)
      (g := 77) (caps := [.ptr 37749120 1 0 0, .ptr 37749121 1 0 0, .ptr 37749122 1 0 0]) ?_ ?_ ?_ ?_ ?_ ?_ ?_ ?_
    · simp -implicitDefEqProofs (disch := omega) only [go_sem]
    · refine hops_sok h k lag c _ _ _ _ hcan ?_ ?_ ?_ (by decide) (by decide) (by decide) (by decide) (by decide) (by decide) <;> simp -implicitDefEqProofs (disch := omega) only [go_sem]
    · intro x hx
      obtain ⟨y, _, rfl⟩ := List.mem_map.1 hx
      rfl
    · simp -implicitDefEqProofs (disch := omega) only [go_sem]
    · simp -implicitDefEqProofs (disch := omega) only [go_sem]
    · simp -implicitDefEqProofs (disch := omega) only [go_sem]
      exact ⟨[], _, rfl, rfl, rfl, rfl, rfl⟩
    · rintro E0 hE0 x rest σ ⟨d, r, hst, hxs, h76, h60, h61⟩
      have e11 : E0 11 = .ptr 37748912 1 0 0 := by rw [hE0]; simp -implicitDefEqProofs (disch := omega) only [go_sem]
      have e12 : E0 12 = .ptr 37748928 1 0 0 := by rw [hE0]; simp -implicitDefEqProofs (disch := omega) only [go_sem]
      obtain ⟨y, r', rfl, rfl, rfl⟩ : ∃ y r', r = y :: r' ∧ x = YP y ∧ rest = r'.map YP := by
        cases r with
        | nil => cases hxs
        | cons y r' => simp only [List.map_cons, List.cons.injEq] at hxs; exact ⟨y, r', rfl, hxs.1, hxs.2⟩
      clear hE0
      have hlen : d.length ≤ 31 := by
        have h1 := congrArg List.length (steps_walk h k (h.length + 1) c (-1))
        have h2 := (walk_length (h := h) (k := k) (h.length + 1) c (-1)).2
        have h3 := (valid_holders (can_at hcan).1).2.2.2.2.2
        rw [List.length_map, hst, List.length_append] at h1
        omega
      simp -implicitDefEqProofs (disch := omega) only [go_sem, e11, e12, h76, h60, h61]
      refine ⟨inL [], fun _ _ => rfl, d ++ [y], r', by rw [hst]; simp, rfl, ?_⟩
      simp -implicitDefEqProofs (disch := omega) only [go_sem, e11, e12, h76, h60, h61]
      exact ⟨by rw [endF_snoc], by simp⟩
    · rintro E0 hE0 σ ⟨d, r, hst, hxs, h76, h60, h61⟩
      have e11 : E0 11 = .ptr 37748912 1 0 0 := by rw [hE0]; simp -implicitDefEqProofs (disch := omega) only [go_sem]
      have e12 : E0 12 = .ptr 37748928 1 0 0 := by rw [hE0]; simp -implicitDefEqProofs (disch := omega) only [go_sem]
      clear hE0
      simp -implicitDefEqProofs (disch := omega) only [go_sem, e11, e12, h76, h60, h61, Tryz.results17]
      have hr : r = [] := by simpa using hxs.symm
      subst hr
      obtain ⟨hv, hat⟩ := can_at hcan
      have h1 := steps_walk h k (h.length + 1) c (-1)
      have h2 := steps_end hv (h.length + 1) c (-1) hat (by omega)
      rw [hst, List.append_nil] at h1 h2
      rw [pathR, if_pos hcan, h1, h2]
      rfl
end Go.Proofs.YtndhglacgiidbaaGreatDoor.Rt
set_option maxRecDepth 100000
namespace Go.Proofs.YtndhglacgiidbaaGreatDoor.Rt
open Go.Vai Go Go.Proofs Go.Proofs.YtndhglacgiidbaaGreatDoor
open Nat (reduceEqDiff reduceMul reduceAdd reduceDiv reduceLeDiff)
open Int (reduceToNat reduceNe reduceEq reduceLT reduceLE)
structure Path24 (h k : List Int) (l d : Int) (p : List (Int × Int)) (e : Int) : Prop where
  ok : PathOK h k d (-1) p e
  here : ∀ x ∈ p, 0 ≤ x.1 ∧ x.1 ≤ 7 ∧ 0 ≤ gd k x.1.toNat ∧ 0 ≤ x.2 ∧ x.2 ≤ (h.length : Int) - 1
  short : (p.length : Int) ≤ l + 2
  once : ∀ m i, m < i → i < p.length → (gd p m).1 ≠ (gd p i).1
  least : (h.length : Int) - 1 - l ≤ gd k d.toNat
  known : 0 ≤ gd k d.toNat
theorem path24 {h k : List Int} {l d : Int} (hcan : canF h k l d = true) : Path24 h k l d (pathF h k d).1 (pathF h k d).2 :=
  ⟨path_ok hcan, path_in hcan, path_short hcan, fun m i hm hi => (path_ok hcan).once hcan (path_in hcan) m i hm hi, (path_least hcan).1, (path_least hcan).2⟩
theorem PathOK.knows {h k : List Int} {c u : Int} {p : List (Int × Int)} {e : Int} (hp : PathOK h k c u p e) (i : Nat) (hi : i < p.length) : gd k (gd p i).1.toNat ≤ (gd p i).2 := by
  cases i with
  | zero => rw [hp.zero]; simp only; omega
  | succ i => have := (hp.step i hi).2.2; omega
theorem PathOK.last {h k : List Int} {c u : Int} {p : List (Int × Int)} {e : Int} (hp : PathOK h k c u p e) (i : Nat) (hi : i < p.length) : (gd p i).2 ≤ (gd p (p.length - 1)).2 := by
  have := hp.asc' i (p.length - 1 - i) (by omega)
  rwa [show i + (p.length - 1 - i) = p.length - 1 from by omega] at this
theorem can_iff {h k : List Int} {l d : Int} (hv : validF h k l = true) (hd : 0 ≤ d ∧ d < 8) : canF h k l d = decide (0 ≤ gd k d.toNat) := by
  simp only [canF, hv, Bool.true_and]
  rw [decide_eq_true (p := 0 ≤ d ∧ d ≤ 7) (by omega), Bool.true_and]
end Go.Proofs.YtndhglacgiidbaaGreatDoor.Rt

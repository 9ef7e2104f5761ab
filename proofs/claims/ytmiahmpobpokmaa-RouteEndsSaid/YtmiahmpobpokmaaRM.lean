/- Chapter 24 in plain words. -/
import Derived.Test.YtmiahmpobpokmaaVy
namespace Go.Proofs.Ytmiahmpobpokmaa
open Go.Vai Go

def pickF (c n : Int) : Int := (if c < 0 then -(c + 1) else c).tmod n
def inF (n lo hi : Int) : Bool := decide (lo ≤ n) && decide (n ≤ hi)
def holdersF (h : List Int) : Bool := inF h.length 1 30 && h.all fun c => inF c (-1) 7
/-- The index of the first one that is no holder. -/
def findF (l : List Int) (v : Nat) : Nat → Int
  | 0 => -1
  | n + 1 => if inF (gd l v) (-1) 7 = false then v else findF l (v + 1) n
/-- Who loses or gains the number in 'v'. -/
def turnsF (h : List Int) (c : Int) (v : Nat) : Prop := gd h v ≠ gd h (v - 1) ∧ (gd h v = c ∨ gd h (v - 1) = c)
instance (h : List Int) (c : Int) (v : Nat) : Decidable (turnsF h c v) := by unfold turnsF; exact inferInstance
/-- The least version that a carrier can know, as far as 'v'. -/
def leastF (h : List Int) (lag c : Int) : Nat → Int
  | 0 => max 0 ((h.length : Int) - 1 - lag)
  | v + 1 => if turnsF h c (v + 1) then max (leastF h lag c v) ((v + 1 : Nat) : Int) else leastF h lag c v
def validF (h k : List Int) (lag : Int) : Bool :=
  holdersF h && decide (k.length = 8) && inF lag 0 10 && (List.range 8).all fun (c : Nat) => decide (gd k c = -1) || inF (gd k c) (leastF h lag c (h.length - 1)) ((h.length : Int) - 1)
theorem leastF_le (h : List Int) (lag c x : Int) : ∀ v, leastF h lag c v ≤ x ↔ 0 ≤ x ∧ (h.length : Int) - 1 - lag ≤ x ∧ ∀ i, 1 ≤ i → i ≤ v → turnsF h c i → (i : Int) ≤ x
  | 0 => by
    simp only [leastF]
    constructor
    · intro hx; exact ⟨by omega, by omega, fun i h1 h2 => by omega⟩
    · intro ⟨h1, h2, _⟩; omega
  | v + 1 => by
    have ih := leastF_le h lag c x v
    simp only [leastF]
    split
    · rename_i ht
      constructor
      · intro hx
        have := ih.1 (by omega)
        refine ⟨this.1, this.2.1, fun i h1 h2 h3 => ?_⟩
        by_cases e : i = v + 1
        · subst e; omega
        · exact this.2.2 i h1 (by omega) h3
      · intro ⟨h1, h2, h3⟩
        have a := ih.2 ⟨h1, h2, fun i h4 h5 h6 => h3 i h4 (by omega) h6⟩
        have b := h3 (v + 1) (by omega) (by omega) ht
        omega
    · rename_i ht
      rw [ih]
      constructor
      · intro ⟨h1, h2, h3⟩
        refine ⟨h1, h2, fun i h4 h5 h6 => ?_⟩
        by_cases e : i = v + 1
        · subst e; exact absurd h6 ht
        · exact h3 i h4 (by omega) h6
      · intro ⟨h1, h2, h3⟩
        exact ⟨h1, h2, fun i h4 h5 h6 => h3 i h4 (by omega) h6⟩
theorem inF_iff (n lo hi : Int) : inF n lo hi = true ↔ lo ≤ n ∧ n ≤ hi := by simp [inF]
theorem inF_not (n lo hi : Int) : inF n lo hi = false ↔ ¬ (lo ≤ n ∧ n ≤ hi) := by rw [← inF_iff]; simp
/-- How a carrier decides: the version, the next one, the end. -/
def decideF (h k : List Int) (c u : Int) : Int × Int × Int :=
  if gd h (max (gd k c.toNat) u).toNat = c then (max (gd k c.toNat) u, -1, 1)
  else if gd h (max (gd k c.toNat) u).toNat < 0 then (max (gd k c.toNat) u, -1, 2)
  else if gd k (gd h (max (gd k c.toNat) u).toNat).toNat < 0 then (max (gd k c.toNat) u, -1, 3)
  else (max (gd k c.toNat) u, gd h (max (gd k c.toNat) u).toNat, 0)
/-- Calls can begin there. -/
def canF (h k : List Int) (lag c : Int) : Bool := validF h k lag && (decide (0 ≤ c ∧ c ≤ 7) && decide (0 ≤ gd k c.toNat))
def T3 (r : Int × Int × Int) : AV := .tup [I r.1, I r.2.1, I r.2.2]
/-- An error's number. -/
abbrev Er (n : Int) : AV := .v (.int .i64 n)
def decR (h k : List Int) (lag c u : Int) : AV := if canF h k lag c = true ∧ inF u (-1) ((h.length : Int) - 1) = true then .tup [I (decideF h k c u).1, I (decideF h k c u).2.1, I (decideF h k c u).2.2, Er 0] else .tup [I 0, I 0, I 0, Er 240]

theorem valid_holders {h k : List Int} {lag : Int} (hv : validF h k lag = true) : holdersF h = true ∧ k.length = 8 ∧ 0 ≤ lag ∧ lag ≤ 10 ∧ 1 ≤ h.length ∧ h.length ≤ 30 := by
  simp only [validF, holdersF, Bool.and_eq_true, decide_eq_true_eq, inF_iff] at hv ⊢
  obtain ⟨⟨⟨h1, h2⟩, h3⟩, _⟩ := hv
  exact ⟨h1, h2, h3.1, h3.2, by omega, by omega⟩
theorem holders_at {h : List Int} (hh : holdersF h = true) (i : Nat) (hi : i < h.length) : -1 ≤ gd h i ∧ gd h i ≤ 7 := by
  simp only [holdersF, Bool.and_eq_true] at hh
  exact (inF_iff _ _ _).1 (List.all_eq_true.1 hh.2 _ (gd_mem h i hi))
theorem valid_known {h k : List Int} {lag : Int} (hv : validF h k lag = true) (i : Nat) (hi : i < 8) : gd k i = -1 ∨ (leastF h lag i (h.length - 1) ≤ gd k i ∧ gd k i ≤ (h.length : Int) - 1) := by
  simp only [validF, Bool.and_eq_true] at hv
  have := List.all_eq_true.1 hv.2 i (List.mem_range.2 hi)
  simpa [inF_iff] using this
theorem leastF_nonneg (h : List Int) (lag c : Int) (n : Nat) : 0 ≤ leastF h lag c n := ((leastF_le h lag c (leastF h lag c n) n).1 (by omega)).1
theorem valid_known' {h k : List Int} {lag : Int} (hv : validF h k lag = true) (i : Nat) (hi : i < 8) : -1 ≤ gd k i ∧ gd k i ≤ (h.length : Int) - 1 := by
  have h1 := valid_known hv i hi
  have h2 := leastF_nonneg h lag i (h.length - 1)
  have := (valid_holders hv).2.2.2.2
  omega
/-- What a carrier knows. -/
def knownF1 (h : List Int) (lag : Int) (y : List Int) (c : Nat) : Int :=
  if pickF (gd y c) 16 = 15 then -1 else leastF h lag c (h.length - 1) + pickF ((gd y c).tdiv 16) (h.length - leastF h lag c (h.length - 1))
def knownF (h : List Int) (lag : Int) (y : List Int) : List Int := (List.range 8).map fun c => knownF1 h lag y c
def madeH (x : List Int) : List Int := if x = [] then [0] else (x.take 12).map fun a => pickF a 9 - 1
def madeL (lag : Int) : Int := pickF lag 11
theorem pickF_in {c n : Int} (hn : 0 < n) : 0 ≤ pickF c n ∧ pickF c n < n := by
  unfold pickF
  have h0 : 0 ≤ (if c < 0 then -(c + 1) else c) := by split <;> omega
  rw [Int.tmod_eq_emod_of_nonneg h0]
  exact ⟨Int.emod_nonneg _ (by omega), Int.emod_lt_of_pos _ hn⟩
theorem madeH_holders (x : List Int) : holdersF (madeH x) = true := by
  unfold madeH
  split
  · rfl
  · rename_i hx
    simp only [holdersF, Bool.and_eq_true]
    refine ⟨(inF_iff _ _ _).2 ?_, List.all_eq_true.2 fun a ha => ?_⟩
    · have : 0 < x.length := by cases x with | nil => exact absurd rfl hx | cons => simp
      simp; omega
    · obtain ⟨b, _, rfl⟩ := List.mem_map.1 ha
      have := pickF_in (c := b) (n := 9) (by omega)
      exact (inF_iff _ _ _).2 (by omega)
theorem leastF_lt {h : List Int} (h1 : 1 ≤ h.length) (lag c : Int) (hl : 0 ≤ lag) : leastF h lag c (h.length - 1) ≤ (h.length : Int) - 1 :=
  (leastF_le h lag c _ _).2 ⟨by omega, by omega, fun i h2 h3 _ => by omega⟩
theorem knownF_at (h : List Int) (lag : Int) (y : List Int) (c : Nat) (hc : c < 8) : gd (knownF h lag y) c = knownF1 h lag y c := by
  unfold gd knownF
  rw [List.getD_eq_getElem?_getD, List.getElem?_map, List.getElem?_range hc]; rfl
theorem knownF_length (h : List Int) (lag : Int) (y : List Int) : (knownF h lag y).length = 8 := by simp [knownF]
theorem known_valid {h : List Int} (hh : holdersF h = true) (lag : Int) (hl : 0 ≤ lag ∧ lag ≤ 10) (y : List Int) : validF h (knownF h lag y) lag = true := by
  have h1 : 1 ≤ h.length := by simp only [holdersF, Bool.and_eq_true, inF_iff] at hh; omega
  simp only [validF, Bool.and_eq_true]
  refine ⟨⟨⟨hh, by simp [knownF]⟩, (inF_iff _ _ _).2 hl⟩, List.all_eq_true.2 fun c hc => ?_⟩
  have hc := List.mem_range.1 hc
  rw [knownF_at _ _ _ _ hc]
  unfold knownF1
  split
  · simp
  · have h2 := leastF_lt h1 lag c hl.1
    have h3 := pickF_in (c := (gd y c).tdiv 16) (n := h.length - leastF h lag c (h.length - 1)) (by omega)
    rw [Bool.or_eq_true]; exact .inr ((inF_iff _ _ _).2 ⟨by omega, by omega⟩)
theorem madeL_in (lag : Int) : 0 ≤ madeL lag ∧ madeL lag ≤ 10 := by
  have := pickF_in (c := lag) (n := 11) (by omega)
  unfold madeL; omega
theorem made_valid (x y : List Int) (lag : Int) : validF (madeH x) (knownF (madeH x) (madeL lag) y) (madeL lag) = true := known_valid (madeH_holders x) _ (madeL_in lag) y
abbrev HP (x : Int × Int) : AV := .agg [I x.1, I x.2]
/-- A path. -/
abbrev HL (l : List (Int × Int)) : AV := .sl 2 (l.map HP)
/-- The hops of a call, and its end: at most 'n' hops. -/
def walkF (h k : List Int) : Nat → Int → Int → List (Int × Int) × Int
  | 0, _, _ => ([], 0)
  | n + 1, c, u =>
    if (decideF h k c u).2.2 = 0 then ((c, (decideF h k c u).1) :: (walkF h k n (decideF h k c u).2.1 (decideF h k c u).1).1, (walkF h k n (decideF h k c u).2.1 (decideF h k c u).1).2)
    else ([(c, (decideF h k c u).1)], (decideF h k c u).2.2)
def pathF (h k : List Int) (c : Int) : List (Int × Int) × Int := walkF h k (h.length + 1) c (-1)
def pathR (h k : List Int) (lag c : Int) : AV := if canF h k lag c = true then .tup [.new 40 2 ((pathF h k c).1.map HP), I (pathF h k c).2, Er 0] else .tup [.new 40 2 [], I 0, Er 240]
/-- Where a call can be: at a carrier that is not down and holds the number by the version so far. -/
def AtF (h k : List Int) (c u : Int) : Prop := 0 ≤ c ∧ c ≤ 7 ∧ 0 ≤ gd k c.toNat ∧ -1 ≤ u ∧ u ≤ (h.length : Int) - 1 ∧ (u = -1 ∨ gd h u.toNat = c)
/-- A step of a call. -/
theorem at_step {h k : List Int} {lag c u : Int} (hv : validF h k lag = true) (ha : AtF h k c u) :
    u ≤ (decideF h k c u).1 ∧ 0 ≤ (decideF h k c u).1 ∧ (decideF h k c u).1 ≤ (h.length : Int) - 1 ∧ (decideF h k c u).1 = max (gd k c.toNat) u ∧
    (((decideF h k c u).2.2 = 0 ∧ u < (decideF h k c u).1 ∧ (decideF h k c u).2.1 = gd h (decideF h k c u).1.toNat ∧ AtF h k (decideF h k c u).2.1 (decideF h k c u).1) ∨
      ((decideF h k c u).2.1 = -1 ∧ ((decideF h k c u).2.2 = 1 ∧ gd h (decideF h k c u).1.toNat = c ∨ (decideF h k c u).2.2 = 2 ∧ gd h (decideF h k c u).1.toNat = -1 ∨
        (decideF h k c u).2.2 = 3 ∧ 0 ≤ gd h (decideF h k c u).1.toNat ∧ gd h (decideF h k c u).1.toNat ≠ c ∧ gd k (gd h (decideF h k c u).1.toNat).toNat = -1))) := by
  obtain ⟨h1, h2, h3, h4, h5, h6⟩ := ha
  obtain ⟨g1, g2, g3, g4, g5, g6⟩ := valid_holders hv
  have hk := valid_known' hv c.toNat (by omega)
  have hw := holders_at g1 (max (gd k c.toNat) u).toNat (by omega)
  unfold decideF
  split
  · rename_i e; exact ⟨by simp; omega, by simp; omega, by simp; omega, rfl, .inr ⟨rfl, .inl ⟨rfl, e⟩⟩⟩
  · rename_i e
    split
    · exact ⟨by simp; omega, by simp; omega, by simp; omega, rfl, .inr ⟨rfl, .inr (.inl ⟨rfl, by simp; omega⟩)⟩⟩
    · rename_i e2
      have hkn := valid_known' hv (gd h (max (gd k c.toNat) u).toNat).toNat (by omega)
      split
      · refine ⟨by simp; omega, by simp; omega, by simp; omega, rfl, .inr ⟨rfl, .inr (.inr ⟨rfl, by simp; omega, e, ?_⟩)⟩⟩
        simp only; omega
      · rename_i e3
        have hlt : u < max (gd k c.toNat) u := by
          rcases h6 with h6 | h6
          · omega
          · by_cases hq : max (gd k c.toNat) u = u
            · rw [hq] at e; exact absurd h6 e
            · omega
        refine ⟨by simp; omega, by simp; omega, by simp; omega, rfl, .inl ⟨rfl, hlt, rfl, ?_⟩⟩
        exact ⟨by simp; omega, by simp; omega, by simp; omega, by simp; omega, by simp; omega, .inr rfl⟩
/-- What is known after the first 'i' hops have learned of 'w'. -/
def learnN (w : Int) (l : List (Int × Int)) (k : List Int) : Nat → List Int
  | 0 => k
  | i + 1 => (learnN w l k i).set (gd l i).1.toNat (max (gd (learnN w l k i) (gd l i).1.toNat) w)
theorem learnN_length (w : Int) (l : List (Int × Int)) (k : List Int) : ∀ i, (learnN w l k i).length = k.length
  | 0 => rfl
  | i + 1 => by simp [learnN, learnN_length w l k i]
def learnF (h k : List Int) (c : Int) : List Int := learnN (gd (pathF h k c).1 ((pathF h k c).1.length - 1)).2 (pathF h k c).1 k (pathF h k c).1.length
def learnR (h k : List Int) (lag c : Int) : AV := if canF h k lag c = true then .tup [.new 3 1 ((learnF h k c).map I), Er 0] else .tup [.new 3 1 [], Er 240]
theorem walk_in {h k : List Int} {lag : Int} (hv : validF h k lag = true) : ∀ (n : Nat) (c u : Int), AtF h k c u → (h.length : Int) - u ≤ n → ∀ x ∈ (walkF h k n c u).1, 0 ≤ x.1 ∧ x.1 ≤ 7 ∧ 0 ≤ gd k x.1.toNat ∧ 0 ≤ x.2 ∧ x.2 ≤ (h.length : Int) - 1
  | 0, c, u, ha, hn, x, hx => by simp [walkF] at hx
  | n + 1, c, u, ha, hn, x, hx => by
    obtain ⟨s1, s2, s3, s4, s5⟩ := at_step hv ha
    obtain ⟨a1, a2, a3, _⟩ := ha
    unfold walkF at hx
    split at hx
    · rename_i he
      rcases s5 with ⟨_, s6, s7, s8⟩ | ⟨_, s6⟩
      · rcases List.mem_cons.1 hx with rfl | hx
        · exact ⟨a1, a2, a3, s2, s3⟩
        · exact walk_in hv n _ _ s8 (by omega) x hx
      · omega
    · simp at hx; subst hx; exact ⟨a1, a2, a3, s2, s3⟩
theorem walk_length {h k : List Int} : ∀ (n : Nat) (c u : Int), (walkF h k (n + 1) c u).1 ≠ [] ∧ (walkF h k n c u).1.length ≤ n
  | 0, c, u => ⟨by unfold walkF; split <;> simp, by simp [walkF]⟩
  | n + 1, c, u => by
    refine ⟨by unfold walkF; split <;> simp, ?_⟩
    unfold walkF
    split
    · have := (walk_length (h := h) (k := k) n (decideF h k c u).2.1 (decideF h k c u).1).2
      simp; omega
    · simp
theorem can_at {h k : List Int} {lag c : Int} (hcan : canF h k lag c = true) : validF h k lag = true ∧ AtF h k c (-1) := by
  simp only [canF, Bool.and_eq_true, decide_eq_true_eq] at hcan
  have := valid_holders hcan.1
  exact ⟨hcan.1, by omega, by omega, by omega, by omega, by omega, .inl rfl⟩
theorem path_in {h k : List Int} {lag c : Int} (hcan : canF h k lag c = true) : ∀ x ∈ (pathF h k c).1, 0 ≤ x.1 ∧ x.1 ≤ 7 ∧ 0 ≤ gd k x.1.toNat ∧ 0 ≤ x.2 ∧ x.2 ≤ (h.length : Int) - 1 :=
  walk_in (can_at hcan).1 _ _ _ (can_at hcan).2 (by omega)
theorem path_length {h k : List Int} {c : Int} : 0 < (pathF h k c).1.length ∧ (pathF h k c).1.length ≤ h.length + 1 :=
  ⟨List.length_pos_iff.2 (walk_length _ _ _).1, (walk_length _ _ _).2⟩
/-- A hop that is to blame. -/
def badF (h : List Int) (l : List (Int × Int)) (i : Nat) : Prop :=
  ¬ (0 ≤ (gd l i).1 ∧ (gd l i).1 ≤ 7) ∨ ¬ (0 ≤ (gd l i).2 ∧ (gd l i).2 ≤ (h.length : Int) - 1) ∨ (0 < i ∧ ((gd l i).1 ≠ gd h (gd l (i - 1)).2.toNat ∨ (gd l i).2 < (gd l (i - 1)).2)) ∨
    (i + 1 < l.length ∧ (gd h (gd l i).2.toNat = (gd l i).1 ∨ gd h (gd l i).2.toNat = -1))
instance (h : List Int) (l : List (Int × Int)) (i : Nat) : Decidable (badF h l i) := by unfold badF; exact inferInstance
def blameN (h : List Int) (l : List (Int × Int)) (i : Nat) : Nat → Int
  | 0 => -1
  | n + 1 => if badF h l i then i else blameN h l (i + 1) n
def blameF (h : List Int) (l : List (Int × Int)) : Int := if holdersF h = true ∧ 0 < l.length then blameN h l 0 l.length else -2
end Go.Proofs.Ytmiahmpobpokmaa

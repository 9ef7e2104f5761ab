/- Chapter 24 in plain words -/
import Derived.Test.YtmiahmpobpokmaaKD
/- Chapter 24 in plain words. -/
namespace Go.Proofs.Ytmiahmpobpokmaa
open Go.Vai Go

def pickF (c n : Int) : Int := (if c < 0 then -(c + 1) else c).tmod n
def inF (n lo hi : Int) : Bool := decide (lo ≤ n) && decide (n ≤ hi)
def holdersF (h : List Int) : Bool := inF h.length 1 30 && h.all fun c => inF c (-1) 7
/-- The index of the first one that is no holder. -/
def findF (l : List Int) (v : Nat) : Nat → Int
  | 0 => -1
  | n + 1 => if inF (gd l v) (-1) 7 = false then v else findF l (v + 1) n
/-- Who loses or gains the number in 'v'. -/
def turnsF (h : List Int) (c : Int) (v : Nat) : Prop := gd h v ≠ gd h (v - 1) ∧ (gd h v = c ∨ gd h (v - 1) = c)
instance (h : List Int) (c : Int) (v : Nat) : Decidable (turnsF h c v) := by unfold turnsF; exact inferInstance
/-- The least version that a carrier can know, as far as 'v'. -/
def leastF (h : List Int) (lag c : Int) : Nat → Int
  | 0 => max 0 ((h.length : Int) - 1 - lag)
  | v + 1 => if turnsF h c (v + 1) then max (leastF h lag c v) ((v + 1 : Nat) : Int) else leastF h lag c v
def validF (h k : List Int) (lag : Int) : Bool :=
  holdersF h && decide (k.length = 8) && inF lag 0 10 && (List.range 8).all fun (c : Nat) => decide (gd k c = -1) || inF (gd k c) (leastF h lag c (h.length - 1)) ((h.length : Int) - 1)
theorem leastF_le (h : List Int) (lag c x : Int) : ∀ v, leastF h lag c v ≤ x ↔ 0 ≤ x ∧ (h.length : Int) - 1 - lag ≤ x ∧ ∀ i, 1 ≤ i → i ≤ v → turnsF h c i → (i : Int) ≤ x
  | 0 => by
    simp only [leastF]
    constructor
    · intro hx; exact ⟨by omega, by omega, fun i h1 h2 => by omega⟩
    · intro ⟨h1, h2, _⟩; omega
  | v + 1 => by
    have ih := leastF_le h lag c x v
    simp only [leastF]
    split
    · rename_i ht
      constructor
      · intro hx
        have := ih.1 (by omega)
        refine ⟨this.1, this.2.1, fun i h1 h2 h3 => ?_⟩
        by_cases e : i = v + 1
        · subst e; omega
        · exact this.2.2 i h1 (by omega) h3
      · intro ⟨h1, h2, h3⟩
        have a := ih.2 ⟨h1, h2, fun i h4 h5 h6 => h3 i h4 (by omega) h6⟩
        have b := h3 (v + 1) (by omega) (by omega) ht
        omega
    · rename_i ht
      rw [ih]
      constructor
      · intro ⟨h1, h2, h3⟩
        refine ⟨h1, h2, fun i h4 h5 h6 => ?_⟩
        by_cases e : i = v + 1
        · subst e; exact absurd h6 ht
        · exact h3 i h4 (by omega) h6
      · intro ⟨h1, h2, h3⟩
        exact ⟨h1, h2, fun i h4 h5 h6 => h3 i h4 (by omega) h6⟩
theorem inF_iff (n lo hi : Int) : inF n lo hi = true ↔ lo ≤ n ∧ n ≤ hi := by simp [inF]
theorem inF_not (n lo hi : Int) : inF n lo hi = false ↔ ¬ (lo ≤ n ∧ n ≤ hi) := by rw [← inF_iff]; simp
/-- How a carrier decides: the version, the next one, the end. -/
def decideF (h k : List Int) (c u : Int) : Int × Int × Int :=
  if gd h (max (gd k c.toNat) u).toNat = c then (max (gd k c.toNat) u, -1, 1)
  else if gd h (max (gd k c.toNat) u).toNat < 0 then (max (gd k c.toNat) u, -1, 2)
  else if gd k (gd h (max (gd k c.toNat) u).toNat).toNat < 0 then (max (gd k c.toNat) u, -1, 3)
  else (max (gd k c.toNat) u, gd h (max (gd k c.toNat) u).toNat, 0)
/-- Calls can begin there. -/
def canF (h k : List Int) (lag c : Int) : Bool := validF h k lag && (decide (0 ≤ c ∧ c ≤ 7) && decide (0 ≤ gd k c.toNat))
def T3 (r : Int × Int × Int) : AV := .tup [I r.1, I r.2.1, I r.2.2]
/-- An error's number. -/
abbrev Er (n : Int) : AV := .v (.int .i64 n)
def decR (h k : List Int) (lag c u : Int) : AV := if canF h k lag c = true ∧ inF u (-1) ((h.length : Int) - 1) = true then .tup [I (decideF h k c u).1, I (decideF h k c u).2.1, I (decideF h k c u).2.2, Er 0] else .tup [I 0, I 0, I 0, Er 240]

theorem valid_holders {h k : List Int} {lag : Int} (hv : validF h k lag = true) : holdersF h = true ∧ k.length = 8 ∧ 0 ≤ lag ∧ lag ≤ 10 ∧ 1 ≤ h.length ∧ h.length ≤ 30 := by
  simp only [validF, holdersF, Bool.and_eq_true, decide_eq_true_eq, inF_iff] at hv ⊢
  obtain ⟨⟨⟨h1, h2⟩, h3⟩, _⟩ := hv
  exact ⟨h1, h2, h3.1, h3.2, by omega, by omega⟩
theorem holders_at {h : List Int} (hh : holdersF h = true) (i : Nat) (hi : i < h.length) : -1 ≤ gd h i ∧ gd h i ≤ 7 := by
  simp only [holdersF, Bool.and_eq_true] at hh
  exact (inF_iff _ _ _).1 (List.all_eq_true.1 hh.2 _ (gd_mem h i hi))
theorem valid_known {h k : List Int} {lag : Int} (hv : validF h k lag = true) (i : Nat) (hi : i < 8) : gd k i = -1 ∨ (leastF h lag i (h.length - 1) ≤ gd k i ∧ gd k i ≤ (h.length : Int) - 1) := by
  simp only [validF, Bool.and_eq_true] at hv
  have := List.all_eq_true.1 hv.2 i (List.mem_range.2 hi)
  simpa [inF_iff] using this
theorem leastF_nonneg (h : List Int) (lag c : Int) (n : Nat) : 0 ≤ leastF h lag c n := ((leastF_le h lag c (leastF h lag c n) n).1 (by omega)).1
theorem valid_known' {h k : List Int} {lag : Int} (hv : validF h k lag = true) (i : Nat) (hi : i < 8) : -1 ≤ gd k i ∧ gd k i ≤ (h.length : Int) - 1 := by
  have h1 := valid_known hv i hi
  have h2 := leastF_nonneg h lag i (h.length - 1)
  have := (valid_holders hv).2.2.2.2
  omega
/-- What a carrier knows. -/
def knownF1 (h : List Int) (lag : Int) (y : List Int) (c : Nat) : Int :=
  if pickF (gd y c) 16 = 15 then -1 else leastF h lag c (h.length - 1) + pickF ((gd y c).tdiv 16) (h.length - leastF h lag c (h.length - 1))
def knownF (h : List Int) (lag : Int) (y : List Int) : List Int := (List.range 8).map fun c => knownF1 h lag y c
def madeH (x : List Int) : List Int := if x = [] then [0] else (x.take 12).map fun a => pickF a 9 - 1
def madeL (lag : Int) : Int := pickF lag 11
theorem pickF_in {c n : Int} (hn : 0 < n) : 0 ≤ pickF c n ∧ pickF c n < n := by
  unfold pickF
  have h0 : 0 ≤ (if c < 0 then -(c + 1) else c) := by split <;> omega
  rw [Int.tmod_eq_emod_of_nonneg h0]
  exact ⟨Int.emod_nonneg _ (by omega), Int.emod_lt_of_pos _ hn⟩
theorem madeH_holders (x : List Int) : holdersF (madeH x) = true := by
  unfold madeH
  split
  · rfl
  · rename_i hx
    simp only [holdersF, Bool.and_eq_true]
    refine ⟨(inF_iff _ _ _).2 ?_, List.all_eq_true.2 fun a ha => ?_⟩
    · have : 0 < x.length := by cases x with | nil => exact absurd rfl hx | cons => simp
      simp; omega
    · obtain ⟨b, _, rfl⟩ := List.mem_map.1 ha
      have := pickF_in (c := b) (n := 9) (by omega)
      exact (inF_iff _ _ _).2 (by omega)
theorem leastF_lt {h : List Int} (h1 : 1 ≤ h.length) (lag c : Int) (hl : 0 ≤ lag) : leastF h lag c (h.length - 1) ≤ (h.length : Int) - 1 :=
  (leastF_le h lag c _ _).2 ⟨by omega, by omega, fun i h2 h3 _ => by omega⟩
theorem knownF_at (h : List Int) (lag : Int) (y : List Int) (c : Nat) (hc : c < 8) : gd (knownF h lag y) c = knownF1 h lag y c := by
  unfold gd knownF
  rw [List.getD_eq_getElem?_getD, List.getElem?_map, List.getElem?_range hc]; rfl
theorem knownF_length (h : List Int) (lag : Int) (y : List Int) : (knownF h lag y).length = 8 := by simp [knownF]
theorem known_valid {h : List Int} (hh : holdersF h = true) (lag : Int) (hl : 0 ≤ lag ∧ lag ≤ 10) (y : List Int) : validF h (knownF h lag y) lag = true := by
  have h1 : 1 ≤ h.length := by simp only [holdersF, Bool.and_eq_true, inF_iff] at hh; omega
  simp only [validF, Bool.and_eq_true]
  refine ⟨⟨⟨hh, by simp [knownF]⟩, (inF_iff _ _ _).2 hl⟩, List.all_eq_true.2 fun c hc => ?_⟩
  have hc := List.mem_range.1 hc
  rw [knownF_at _ _ _ _ hc]
  unfold knownF1
  split
  · simp
  · have h2 := leastF_lt h1 lag c hl.1
    have h3 := pickF_in (c := (gd y c).tdiv 16) (n := h.length - leastF h lag c (h.length - 1)) (by omega)
    rw [Bool.or_eq_true]; exact .inr ((inF_iff _ _ _).2 ⟨by omega, by omega⟩)
theorem madeL_in (lag : Int) : 0 ≤ madeL lag ∧ madeL lag ≤ 10 := by
  have := pickF_in (c := lag) (n := 11) (by omega)
  unfold madeL; omega
theorem made_valid (x y : List Int) (lag : Int) : validF (madeH x) (knownF (madeH x) (madeL lag) y) (madeL lag) = true := known_valid (madeH_holders x) _ (madeL_in lag) y
abbrev HP (x : Int × Int) : AV := .agg [I x.1, I x.2]
/-- A path. -/
abbrev HL (l : List (Int × Int)) : AV := .sl 2 (l.map HP)
/-- The hops of a call, and its end: at most 'n' hops. -/
def walkF (h k : List Int) : Nat → Int → Int → List (Int × Int) × Int
  | 0, _, _ => ([], 0)
  | n + 1, c, u =>
    if (decideF h k c u).2.2 = 0 then ((c, (decideF h k c u).1) :: (walkF h k n (decideF h k c u).2.1 (decideF h k c u).1).1, (walkF h k n (decideF h k c u).2.1 (decideF h k c u).1).2)
    else ([(c, (decideF h k c u).1)], (decideF h k c u).2.2)
def pathF (h k : List Int) (c : Int) : List (Int × Int) × Int := walkF h k (h.length + 1) c (-1)
def pathR (h k : List Int) (lag c : Int) : AV := if canF h k lag c = true then .tup [.new 40 2 ((pathF h k c).1.map HP), I (pathF h k c).2, Er 0] else .tup [.new 40 2 [], I 0, Er 240]
/-- Where a call can be: at a carrier that is not down and holds the number by the version so far. -/
def AtF (h k : List Int) (c u : Int) : Prop := 0 ≤ c ∧ c ≤ 7 ∧ 0 ≤ gd k c.toNat ∧ -1 ≤ u ∧ u ≤ (h.length : Int) - 1 ∧ (u = -1 ∨ gd h u.toNat = c)
/-- A step of a call. -/
theorem at_step {h k : List Int} {lag c u : Int} (hv : validF h k lag = true) (ha : AtF h k c u) :
    u ≤ (decideF h k c u).1 ∧ 0 ≤ (decideF h k c u).1 ∧ (decideF h k c u).1 ≤ (h.length : Int) - 1 ∧ (decideF h k c u).1 = max (gd k c.toNat) u ∧
    (((decideF h k c u).2.2 = 0 ∧ u < (decideF h k c u).1 ∧ (decideF h k c u).2.1 = gd h (decideF h k c u).1.toNat ∧ AtF h k (decideF h k c u).2.1 (decideF h k c u).1) ∨
      ((decideF h k c u).2.1 = -1 ∧ ((decideF h k c u).2.2 = 1 ∧ gd h (decideF h k c u).1.toNat = c ∨ (decideF h k c u).2.2 = 2 ∧ gd h (decideF h k c u).1.toNat = -1 ∨
        (decideF h k c u).2.2 = 3 ∧ 0 ≤ gd h (decideF h k c u).1.toNat ∧ gd h (decideF h k c u).1.toNat ≠ c ∧ gd k (gd h (decideF h k c u).1.toNat).toNat = -1))) := by
  obtain ⟨h1, h2, h3, h4, h5, h6⟩ := ha
  obtain ⟨g1, g2, g3, g4, g5, g6⟩ := valid_holders hv
  have hk := valid_known' hv c.toNat (by omega)
  have hw := holders_at g1 (max (gd k c.toNat) u).toNat (by omega)
  unfold decideF
  split
  · rename_i e; exact ⟨by simp; omega, by simp; omega, by simp; omega, rfl, .inr ⟨rfl, .inl ⟨rfl, e⟩⟩⟩
  · rename_i e
    split
    · exact ⟨by simp; omega, by simp; omega, by simp; omega, rfl, .inr ⟨rfl, .inr (.inl ⟨rfl, by simp; omega⟩)⟩⟩
    · rename_i e2
      have hkn := valid_known' hv (gd h (max (gd k c.toNat) u).toNat).toNat (by omega)
      split
      · refine ⟨by simp; omega, by simp; omega, by simp; omega, rfl, .inr ⟨rfl, .inr (.inr ⟨rfl, by simp; omega, e, ?_⟩)⟩⟩
        simp only; omega
      · rename_i e3
        have hlt : u < max (gd k c.toNat) u := by
          rcases h6 with h6 | h6
          · omega
          · by_cases hq : max (gd k c.toNat) u = u
            · rw [hq] at e; exact absurd h6 e
            · omega
        refine ⟨by simp; omega, by simp; omega, by simp; omega, rfl, .inl ⟨rfl, hlt, rfl, ?_⟩⟩
        exact ⟨by simp; omega, by simp; omega, by simp; omega, by simp; omega, by simp; omega, .inr rfl⟩
/-- What is known after the first 'i' hops have learned of 'w'. -/
def learnN (w : Int) (l : List (Int × Int)) (k : List Int) : Nat → List Int
  | 0 => k
  | i + 1 => (learnN w l k i).set (gd l i).1.toNat (max (gd (learnN w l k i) (gd l i).1.toNat) w)
theorem learnN_length (w : Int) (l : List (Int × Int)) (k : List Int) : ∀ i, (learnN w l k i).length = k.length
  | 0 => rfl
  | i + 1 => by simp [learnN, learnN_length w l k i]
def learnF (h k : List Int) (c : Int) : List Int := learnN (gd (pathF h k c).1 ((pathF h k c).1.length - 1)).2 (pathF h k c).1 k (pathF h k c).1.length
def learnR (h k : List Int) (lag c : Int) : AV := if canF h k lag c = true then .tup [.new 3 1 ((learnF h k c).map I), Er 0] else .tup [.new 3 1 [], Er 240]
theorem walk_here {h k : List Int} {lag : Int} (hv : validF h k lag = true) : ∀ (n : Nat) (c u : Int), AtF h k c u → (h.length : Int) - u ≤ n → ∀ x ∈ (walkF h k n c u).1, 0 ≤ x.1 ∧ x.1 ≤ 7 ∧ 0 ≤ gd k x.1.toNat ∧ 0 ≤ x.2 ∧ x.2 ≤ (h.length : Int) - 1
  | 0, c, u, ha, hn, x, hx => by simp [walkF] at hx
  | n + 1, c, u, ha, hn, x, hx => by
    obtain ⟨s1, s2, s3, s4, s5⟩ := at_step hv ha
    obtain ⟨a1, a2, a3, _⟩ := ha
    unfold walkF at hx
    split at hx
    · rename_i he
      rcases s5 with ⟨_, s6, s7, s8⟩ | ⟨_, s6⟩
      · rcases List.mem_cons.1 hx with rfl | hx
        · exact ⟨a1, a2, a3, s2, s3⟩
        · exact walk_here hv n _ _ s8 (by omega) x hx
      · omega
    · simp at hx; subst hx; exact ⟨a1, a2, a3, s2, s3⟩
theorem walk_length {h k : List Int} : ∀ (n : Nat) (c u : Int), (walkF h k (n + 1) c u).1 ≠ [] ∧ (walkF h k n c u).1.length ≤ n
  | 0, c, u => ⟨by unfold walkF; split <;> simp, by simp [walkF]⟩
  | n + 1, c, u => by
    refine ⟨by unfold walkF; split <;> simp, ?_⟩
    unfold walkF
    split
    · have := (walk_length (h := h) (k := k) n (decideF h k c u).2.1 (decideF h k c u).1).2
      simp; omega
    · simp
theorem can_at {h k : List Int} {lag c : Int} (hcan : canF h k lag c = true) : validF h k lag = true ∧ AtF h k c (-1) := by
  simp only [canF, Bool.and_eq_true, decide_eq_true_eq] at hcan
  have := valid_holders hcan.1
  exact ⟨hcan.1, by omega, by omega, by omega, by omega, by omega, .inl rfl⟩
theorem path_in {h k : List Int} {lag c : Int} (hcan : canF h k lag c = true) : ∀ x ∈ (pathF h k c).1, 0 ≤ x.1 ∧ x.1 ≤ 7 ∧ 0 ≤ gd k x.1.toNat ∧ 0 ≤ x.2 ∧ x.2 ≤ (h.length : Int) - 1 :=
  walk_here (can_at hcan).1 _ _ _ (can_at hcan).2 (by omega)
theorem path_length {h k : List Int} {c : Int} : 0 < (pathF h k c).1.length ∧ (pathF h k c).1.length ≤ h.length + 1 :=
  ⟨List.length_pos_iff.2 (walk_length _ _ _).1, (walk_length _ _ _).2⟩
/-- A hop that is to blame. -/
def badF (h : List Int) (l : List (Int × Int)) (i : Nat) : Prop :=
  ¬ (0 ≤ (gd l i).1 ∧ (gd l i).1 ≤ 7) ∨ ¬ (0 ≤ (gd l i).2 ∧ (gd l i).2 ≤ (h.length : Int) - 1) ∨ (0 < i ∧ ((gd l i).1 ≠ gd h (gd l (i - 1)).2.toNat ∨ (gd l i).2 < (gd l (i - 1)).2)) ∨
    (i + 1 < l.length ∧ (gd h (gd l i).2.toNat = (gd l i).1 ∨ gd h (gd l i).2.toNat = -1))
instance (h : List Int) (l : List (Int × Int)) (i : Nat) : Decidable (badF h l i) := by unfold badF; exact inferInstance
def blameN (h : List Int) (l : List (Int × Int)) (i : Nat) : Nat → Int
  | 0 => -1
  | n + 1 => if badF h l i then i else blameN h l (i + 1) n
def blameF (h : List Int) (l : List (Int × Int)) : Int := if holdersF h = true ∧ 0 < l.length then blameN h l 0 l.length else -2
end Go.Proofs.Ytmiahmpobpokmaa

/- Chapter 24 in plain words: what paths are like. -/
namespace Go.Proofs.Ytmiahmpobpokmaa
open Go.Vai Go

/-- From what a carrier knows on, it holds the number always or never. -/
theorem stays {h k : List Int} {lag : Int} (hv : validF h k lag = true) {c : Int} (hc : 0 ≤ c ∧ c ≤ 7) (hk : 0 ≤ gd k c.toNat) (a : Nat) (ha : gd k c.toNat ≤ a) : ∀ d : Nat, a + d < h.length → (gd h (a + d) = c ↔ gd h a = c)
  | 0, _ => Iff.rfl
  | d + 1, hd => by
    rw [← stays hv hc hk a ha d (by omega)]
    have hkn := valid_known hv c.toNat (by omega)
    have hl := ((leastF_le h lag c.toNat (gd k c.toNat) (h.length - 1)).1 (by omega)).2.2 (a + (d + 1)) (by omega) (by omega)
    have e : a + (d + 1) - 1 = a + d := by omega
    have ec : ((c.toNat : Nat) : Int) = c := by omega
    simp only [turnsF, e, ec] at hl
    by_cases hq : gd h (a + (d + 1)) = gd h (a + d)
    · rw [hq]
    · constructor
      · intro h1; have := hl ⟨hq, .inl h1⟩; omega
      · intro h1; have := hl ⟨hq, .inr h1⟩; omega
theorem stays' {h k : List Int} {lag : Int} (hv : validF h k lag = true) {c : Int} (hc : 0 ≤ c ∧ c ≤ 7) (hk : 0 ≤ gd k c.toNat) {a b : Int} (ha : gd k c.toNat ≤ a) (hab : a ≤ b) (hb : b ≤ (h.length : Int) - 1) : gd h b.toNat = c ↔ gd h a.toNat = c := by
  have := stays hv hc hk a.toNat (by omega) (b - a).toNat (by omega)
  rwa [show a.toNat + (b - a).toNat = b.toNat from by omega] at this

theorem decide_go {h k : List Int} {c u : Int} (he : (decideF h k c u).2.2 = 0) : (decideF h k c u).2.1 = gd h (decideF h k c u).1.toNat ∧ (decideF h k c u).2.1 ≠ c ∧ (decideF h k c u).1 = max (gd k c.toNat) u := by
  revert he
  unfold decideF
  split
  · intro h; simp at h
  · rename_i h1
    split
    · intro h; simp at h
    · split
      · intro h; simp at h
      · intro _; exact ⟨rfl, h1, rfl⟩
theorem decide_w (h k : List Int) (c u : Int) : (decideF h k c u).1 = max (gd k c.toNat) u := by
  unfold decideF; split
  · rfl
  · split
    · rfl
    · split <;> rfl

/-- What a path is like. -/
structure PathOK (h k : List Int) (c u : Int) (p : List (Int × Int)) (e : Int) : Prop where
  pos : 0 < p.length
  zero : gd p 0 = (c, max (gd k c.toNat) u)
  step : ∀ i, i + 1 < p.length → (gd p (i + 1)).1 = gd h (gd p i).2.toNat ∧ (gd p (i + 1)).1 ≠ (gd p i).1 ∧ (gd p (i + 1)).2 = max (gd k (gd p (i + 1)).1.toNat) (gd p i).2
  fin : (e = 1 ∧ gd h (gd p (p.length - 1)).2.toNat = (gd p (p.length - 1)).1) ∨ (e = 2 ∧ gd h (gd p (p.length - 1)).2.toNat = -1) ∨
    (e = 3 ∧ 0 ≤ gd h (gd p (p.length - 1)).2.toNat ∧ gd h (gd p (p.length - 1)).2.toNat ≠ (gd p (p.length - 1)).1 ∧ gd k (gd h (gd p (p.length - 1)).2.toNat).toNat = -1)

theorem walk_ok {h k : List Int} {lag : Int} (hv : validF h k lag = true) : ∀ (n : Nat) (c u : Int), AtF h k c u → (h.length : Int) - u ≤ n → PathOK h k c u (walkF h k n c u).1 (walkF h k n c u).2
  | 0, c, u, ha, hn => by have := ha.2.2.2.2.1; omega
  | n + 1, c, u, ha, hn => by
    obtain ⟨s1, s2, s3, s4, s5⟩ := at_step hv ha
    by_cases he : (decideF h k c u).2.2 = 0
    · obtain ⟨g1, g2, g3⟩ := decide_go he
      have hw : walkF h k (n + 1) c u = ((c, (decideF h k c u).1) :: (walkF h k n (decideF h k c u).2.1 (decideF h k c u).1).1, (walkF h k n (decideF h k c u).2.1 (decideF h k c u).1).2) := by rw [walkF, if_pos he]
      rw [hw]
      rcases s5 with ⟨_, s6, s7, s8⟩ | ⟨_, s6⟩
      · have ih := walk_ok hv n _ _ s8 (by omega)
        generalize (walkF h k n (decideF h k c u).2.1 (decideF h k c u).1).1 = p at *
        generalize (walkF h k n (decideF h k c u).2.1 (decideF h k c u).1).2 = e at *
        refine ⟨by simp, by simp [g3], fun i hi => ?_, ?_⟩
        · cases i with
          | zero => simp only [gd_cons_zero, gd_cons_succ, ih.zero]; exact ⟨g1, g2, trivial⟩
          | succ i => simp only [gd_cons_succ]; exact ih.step i (by simpa using hi)
        · have hp := ih.pos
          have e1 : gd ((c, (decideF h k c u).1) :: p) (((c, (decideF h k c u).1) :: p).length - 1) = gd p (p.length - 1) := by
            rw [List.length_cons, show p.length + 1 - 1 = (p.length - 1) + 1 from by omega, gd_cons_succ]
          rw [e1]; exact ih.fin
      · omega
    · have hw : walkF h k (n + 1) c u = ([(c, (decideF h k c u).1)], (decideF h k c u).2.2) := by rw [walkF, if_neg he]
      rw [hw]
      refine ⟨by simp, by simp [decide_w], fun i hi => by simp at hi, ?_⟩
      simp only [List.length_singleton, Nat.sub_self, gd_cons_zero]
      rcases s5 with ⟨s6, _⟩ | ⟨_, s6⟩
      · exact absurd s6 he
      · exact s6

theorem path_ok {h k : List Int} {lag c : Int} (hcan : canF h k lag c = true) : PathOK h k c (-1) (pathF h k c).1 (pathF h k c).2 :=
  walk_ok (can_at hcan).1 _ _ _ (can_at hcan).2 (by omega)

section
variable {h k : List Int} {lag c : Int} {p : List (Int × Int)} {e : Int}
/-- Versions ascend. -/
theorem PathOK.asc {u : Int} (hp : PathOK h k c u p e) (i : Nat) (hi : i + 1 < p.length) : (gd p i).2 ≤ (gd p (i + 1)).2 := by
  have := (hp.step i hi).2.2; omega
theorem PathOK.asc' {u : Int} (hp : PathOK h k c u p e) (i : Nat) : ∀ d, i + d < p.length → (gd p i).2 ≤ (gd p (i + d)).2
  | 0, _ => by simp
  | d + 1, hd => by
    have := PathOK.asc' hp i d (by omega)
    have := hp.asc (i + d) (by omega)
    rw [← Nat.add_assoc]; omega
/-- Strictly, but for the last two. -/
theorem PathOK.strict {u : Int} (hp : PathOK h k c u p e) (i : Nat) (hi : i + 2 < p.length) : (gd p i).2 < (gd p (i + 1)).2 := by
  have h1 := hp.step i (by omega)
  have h2 := hp.step (i + 1) (by omega)
  have h3 := hp.asc i (by omega)
  by_cases e : (gd p i).2 = (gd p (i + 1)).2
  · rw [e] at h1; exact absurd (h2.1.trans h1.1.symm) h2.2.1
  · omega
theorem PathOK.climb {u : Int} (hp : PathOK h k c u p e) : ∀ i : Nat, i + 1 < p.length → (gd p 0).2 + i ≤ (gd p i).2
  | 0, _ => by simp
  | i + 1, hi => by
    have := PathOK.climb hp i (by omega)
    have := hp.strict i (by omega)
    push_cast; omega
/-- Nobody has the call twice. -/
theorem PathOK.once (hcan : canF h k lag c = true) (hp : PathOK h k c (-1) p e) (hin : ∀ x ∈ p, 0 ≤ x.1 ∧ x.1 ≤ 7 ∧ 0 ≤ gd k x.1.toNat ∧ 0 ≤ x.2 ∧ x.2 ≤ (h.length : Int) - 1) (m i : Nat) (hm : m < i) (hi : i < p.length) : (gd p m).1 ≠ (gd p i).1 := by
  intro e1
  obtain ⟨j, rfl⟩ : ∃ j, i = j + 1 := ⟨i - 1, by omega⟩
  have hv := (can_at hcan).1
  have hs := hp.step j (by omega)
  have hsm := hp.step m (by omega)
  have i1 := hin _ (gd_mem p m (by omega))
  have i2 := hin _ (gd_mem p j (by omega))
  have hkm : gd k (gd p m).1.toNat ≤ (gd p m).2 := by
    cases m with
    | zero => rw [hp.zero]; simp only; omega
    | succ m => have := (hp.step m (by omega)).2.2; omega
  have hmj : (gd p m).2 ≤ (gd p j).2 := by
    have := hp.asc' m (j - m) (by omega)
    rwa [show m + (j - m) = j from by omega] at this
  have := (stays' hv ⟨i1.1, i1.2.1⟩ i1.2.2.1 hkm hmj i2.2.2.2.2).1 (by rw [e1]; exact hs.1.symm)
  exact hsm.2.1 (hsm.1.trans this)
end

theorem path_least {h k : List Int} {lag c : Int} (hcan : canF h k lag c = true) : (h.length : Int) - 1 - lag ≤ gd k c.toNat ∧ 0 ≤ gd k c.toNat := by
  have hv := (can_at hcan).1
  have hc := (can_at hcan).2
  have hkn := valid_known hv c.toNat (by have := hc.2.1; omega)
  have := hc.2.2.1
  have hl := (leastF_le h lag c.toNat (gd k c.toNat) (h.length - 1)).1 (by omega)
  exact ⟨hl.2.1, this⟩
theorem path_short {h k : List Int} {lag c : Int} (hcan : canF h k lag c = true) : ((pathF h k c).1.length : Int) ≤ lag + 2 := by
  have hp := path_ok hcan
  have hin := path_in hcan
  have hl := path_least hcan
  by_cases h2 : (pathF h k c).1.length < 2
  · have := (valid_holders (can_at hcan).1).2.2.1; omega
  · have h1 := hp.climb ((pathF h k c).1.length - 2) (by omega)
    have h3 := hin _ (gd_mem (pathF h k c).1 ((pathF h k c).1.length - 2) (by omega))
    have h0 := hp.zero
    rw [h0] at h1; simp only at h1
    omega
end Go.Proofs.Ytmiahmpobpokmaa

/- Chapter 24 in plain words: learning, blaming. -/
namespace Go.Proofs.Ytmiahmpobpokmaa
open Go.Vai Go

theorem holdersF_pos {h : List Int} (hh : holdersF h = true) : 1 ≤ h.length ∧ h.length ≤ 30 := by
  simp only [holdersF, Bool.and_eq_true, inF_iff] at hh; omega
theorem validF_of {h k : List Int} {lag : Int} (h1 : holdersF h = true) (h2 : k.length = 8) (h3 : 0 ≤ lag ∧ lag ≤ 10)
    (h4 : ∀ c : Nat, c < 8 → gd k c = -1 ∨ (0 ≤ gd k c ∧ (h.length : Int) - 1 - lag ≤ gd k c ∧ gd k c ≤ (h.length : Int) - 1 ∧ ∀ i : Nat, 1 ≤ i → i < h.length → turnsF h c i → (i : Int) ≤ gd k c)) : validF h k lag = true := by
  simp only [validF, Bool.and_eq_true]
  refine ⟨⟨⟨h1, by simp [h2]⟩, (inF_iff _ _ _).2 h3⟩, List.all_eq_true.2 fun c hc => ?_⟩
  have hl := holdersF_pos h1
  rcases h4 c (List.mem_range.1 hc) with h5 | ⟨h5, h6, h7, h8⟩
  · simp [h5]
  · rw [Bool.or_eq_true]
    exact .inr ((inF_iff _ _ _).2 ⟨(leastF_le h lag c _ _).2 ⟨h5, h6, fun i h9 h10 h11 => h8 i h9 (by omega) h11⟩, h7⟩)
theorem valid_all {h k : List Int} {lag : Int} (hv : validF h k lag = true) (c : Nat) (hc : c < 8) :
    gd k c = -1 ∨ (0 ≤ gd k c ∧ (h.length : Int) - 1 - lag ≤ gd k c ∧ gd k c ≤ (h.length : Int) - 1 ∧ ∀ i : Nat, 1 ≤ i → i < h.length → turnsF h c i → (i : Int) ≤ gd k c) := by
  rcases valid_known hv c hc with h1 | ⟨h1, h2⟩
  · exact .inl h1
  · have := (leastF_le h lag c (gd k c) (h.length - 1)).1 h1
    exact .inr ⟨this.1, this.2.1, h2, fun i h3 h4 h5 => this.2.2 i h3 (by omega) h5⟩

theorem learnN_at (w : Int) (l : List (Int × Int)) (k : List Int) (hl : ∀ x ∈ l, x.1.toNat < k.length) : ∀ i, i ≤ l.length → ∀ j, gd (learnN w l k i) j = if ∃ a, a < i ∧ (gd l a).1.toNat = j then max (gd k j) w else gd k j
  | 0, _, j => by simp [learnN]
  | i + 1, hi, j => by
    have ih := learnN_at w l k hl i (by omega)
    have hx := hl _ (gd_mem l i (by omega))
    rw [learnN, gd_set _ _ _ _ (by rw [learnN_length]; exact hx)]
    by_cases e : j = (gd l i).1.toNat
    · have hex : ∃ a, a < i + 1 ∧ (gd l a).1.toNat = j := ⟨i, by omega, e.symm⟩
      rw [if_pos e, ← e, ih j, if_pos hex]
      split <;> omega
    · rw [if_neg e, ih j]
      congr 1
      refine propext ⟨fun ⟨a, h1, h2⟩ => ⟨a, by omega, h2⟩, fun ⟨a, h1, h2⟩ => ⟨a, ?_, h2⟩⟩
      by_cases e2 : a = i
      · subst e2; exact absurd h2.symm e
      · omega

section
variable {h k : List Int} {lag c : Int}
/-- The version of the last hop. -/
def lastW (h k : List Int) (c : Int) : Int := (gd (pathF h k c).1 ((pathF h k c).1.length - 1)).2
theorem learn_at (hcan : canF h k lag c = true) (j : Nat) : gd (learnF h k c) j = if ∃ a, a < (pathF h k c).1.length ∧ (gd (pathF h k c).1 a).1.toNat = j then max (gd k j) (lastW h k c) else gd k j := by
  have hv := valid_holders (can_at hcan).1
  exact learnN_at _ _ _ (fun x hx => by have := path_in hcan x hx; omega) _ (Nat.le_refl _) j
theorem learn_length (hcan : canF h k lag c = true) : (learnF h k c).length = 8 := by
  unfold learnF; rw [learnN_length]; exact (valid_holders (can_at hcan).1).2.1
theorem lastW_in (hcan : canF h k lag c = true) : 0 ≤ lastW h k c ∧ lastW h k c ≤ (h.length : Int) - 1 ∧ gd k c.toNat ≤ lastW h k c ∧ (h.length : Int) - 1 - lag ≤ lastW h k c := by
  have hp := path_ok hcan
  have hpos := hp.pos
  have h1 := path_in hcan _ (gd_mem (pathF h k c).1 ((pathF h k c).1.length - 1) (by omega))
  have h2 := hp.asc' 0 ((pathF h k c).1.length - 1) (by omega)
  have h3 := path_least hcan
  rw [hp.zero, Nat.zero_add] at h2; simp only at h2
  unfold lastW; omega
theorem learn_more (hcan : canF h k lag c = true) (j : Nat) : gd k j ≤ gd (learnF h k c) j ∧ (gd k j = -1 → j < 8 → gd (learnF h k c) j = -1) := by
  rw [learn_at hcan]
  split
  · rename_i hx
    obtain ⟨a, ha, he⟩ := hx
    have := path_in hcan _ (gd_mem (pathF h k c).1 a ha)
    rw [he] at this
    exact ⟨by omega, fun e => by omega⟩
  · exact ⟨by omega, fun e _ => e⟩
theorem learn_valid (hcan : canF h k lag c = true) : validF h (learnF h k c) lag = true := by
  have hv := (can_at hcan).1
  obtain ⟨g1, g2, g3, g4, g5, g6⟩ := valid_holders hv
  refine validF_of g1 (learn_length hcan) ⟨g3, g4⟩ fun j hj => ?_
  have hw := lastW_in hcan
  have hm := learn_more hcan j
  have hle : gd (learnF h k c) j ≤ (h.length : Int) - 1 := by
    rw [learn_at hcan]
    have := valid_known' hv j hj
    split <;> omega
  rcases valid_all hv j hj with h1 | ⟨h1, h2, h3, h4⟩
  · exact .inl (hm.2 h1 hj)
  · exact .inr ⟨by omega, by omega, hle, fun i a b d => by have := h4 i a b d; omega⟩
theorem learn_can (hcan : canF h k lag c = true) : canF h (learnF h k c) lag c = true := by
  have h1 := learn_valid hcan
  have hc := (can_at hcan).2
  simp only [canF, h1, Bool.true_and, Bool.and_eq_true, decide_eq_true_eq]
  have := learn_more hcan c.toNat
  exact ⟨⟨hc.1, hc.2.1⟩, by have := hc.2.2.1; omega⟩
/-- The call after learning. -/
theorem learn_path (hcan : canF h k lag c = true) : ∃ q, pathF h (learnF h k c) c = (q, (pathF h k c).2) ∧ 1 ≤ q.length ∧ q.length ≤ 2 ∧ (gd q (q.length - 1)).2 = lastW h k c ∧
    ((pathF h k c).2 = 1 → gd q (q.length - 1) = gd (pathF h k c).1 ((pathF h k c).1.length - 1)) := by
  have hv := (can_at hcan).1
  have hat := (can_at hcan).2
  obtain ⟨g1, g2, g3, g4, g5, g6⟩ := valid_holders hv
  have hp := path_ok hcan
  have hw := lastW_in hcan
  have hpos := hp.pos
  have hin := path_in hcan
  have hlast := hin _ (gd_mem (pathF h k c).1 ((pathF h k c).1.length - 1) (by omega))
  have mc : gd (learnF h k c) c.toNat = lastW h k c := by
    rw [learn_at hcan, if_pos ⟨0, hpos, by rw [hp.zero]⟩]; omega
  have hfin := hp.fin
  have hlw : (gd (pathF h k c).1 ((pathF h k c).1.length - 1)).2 = lastW h k c := rfl
  rw [hlw] at hfin
  have mlast : gd (learnF h k c) (gd (pathF h k c).1 ((pathF h k c).1.length - 1)).1.toNat = lastW h k c := by
    rw [learn_at hcan, if_pos ⟨_, by omega, rfl⟩]
    have : gd k (gd (pathF h k c).1 ((pathF h k c).1.length - 1)).1.toNat ≤ lastW h k c := by
      by_cases e : (pathF h k c).1.length - 1 = 0
      · rw [e, hp.zero]; exact hw.2.2.1
      · have := (hp.step ((pathF h k c).1.length - 2) (by omega)).2.2
        rw [show (pathF h k c).1.length - 2 + 1 = (pathF h k c).1.length - 1 from by omega] at this
        omega
    omega
  have hmax : max (lastW h k c) (-1) = lastW h k c := by omega
  have e0 : pathF h (learnF h k c) c = walkF h (learnF h k c) ((h.length - 1) + 2) c (-1) := by unfold pathF; congr 1; omega
  rw [e0]
  generalize hx : gd (pathF h k c).1 ((pathF h k c).1.length - 1) = x at *
  generalize hee : (pathF h k c).2 = e at *
  rcases hfin with ⟨rfl, h1⟩ | ⟨rfl, h1⟩ | ⟨rfl, h1, h2, h3⟩
  · by_cases hc : x.1 = c
    · have hd : decideF h (learnF h k c) c (-1) = (lastW h k c, -1, 1) := by
        unfold decideF; rw [mc, hmax, if_pos (by rw [h1, hc])]
      refine ⟨[(c, lastW h k c)], by rw [walkF, hd]; simp, by simp, by simp, by simp, fun _ => ?_⟩
      simp only [List.length_singleton, Nat.sub_self, gd_cons_zero]
      exact Prod.ext hc.symm hlw.symm
    · have hd : decideF h (learnF h k c) c (-1) = (lastW h k c, x.1, 0) := by
        unfold decideF; rw [mc, hmax, if_neg (by rw [h1]; exact hc), if_neg (by rw [h1]; omega), h1, mlast, if_neg (by omega)]
      have hd2 : decideF h (learnF h k c) x.1 (lastW h k c) = (lastW h k c, -1, 1) := by
        unfold decideF; rw [mlast, show max (lastW h k c) (lastW h k c) = lastW h k c from by omega, if_pos h1]
      refine ⟨[(c, lastW h k c), (x.1, lastW h k c)], by rw [walkF, hd]; simp only; rw [walkF, hd2]; simp, by simp, by simp, by simp, fun _ => ?_⟩
      simp only [List.length_cons, List.length_nil, Nat.zero_add, Nat.add_one_sub_one, gd_cons_succ, gd_cons_zero]
      exact Prod.ext rfl hlw.symm
  · have hd : decideF h (learnF h k c) c (-1) = (lastW h k c, -1, 2) := by
      unfold decideF; rw [mc, hmax, if_neg (by rw [h1]; have := hat.1; omega), if_pos (by omega)]
    exact ⟨[(c, lastW h k c)], by rw [walkF, hd]; simp, by simp, by simp, by simp, fun h => by omega⟩
  · have hh := holders_at g1 (lastW h k c).toNat (by omega)
    have mx := (learn_more hcan (gd h (lastW h k c).toNat).toNat).2 h3 (by omega)
    have hne : gd h (lastW h k c).toNat ≠ c := fun e => by rw [e] at h3; have := hat.2.2.1; omega
    have hd : decideF h (learnF h k c) c (-1) = (lastW h k c, -1, 3) := by
      unfold decideF; rw [mc, hmax, if_neg hne, if_neg (by omega), if_pos (by omega)]
    exact ⟨[(c, lastW h k c)], by rw [walkF, hd]; simp, by simp, by simp, by simp, fun h => by omega⟩

theorem path_good (hcan : canF h k lag c = true) (i : Nat) (hi : i < (pathF h k c).1.length) : ¬ badF h (pathF h k c).1 i := by
  have hp := path_ok hcan
  have h1 := path_in hcan _ (gd_mem (pathF h k c).1 i hi)
  unfold badF
  rintro (h2 | h2 | ⟨h2, h3⟩ | ⟨h2, h3⟩)
  · omega
  · omega
  · have := hp.step (i - 1) (by omega)
    have h4 := hp.asc (i - 1) (by omega)
    rw [show i - 1 + 1 = i from by omega] at this h4
    rcases h3 with h3 | h3
    · exact h3 this.1
    · omega
  · have := hp.step i h2
    have h4 := path_in hcan _ (gd_mem (pathF h k c).1 (i + 1) h2)
    rcases h3 with h3 | h3
    · exact this.2.1 (this.1.trans h3)
    · rw [this.1] at h4; omega
end

theorem blameN_good (h : List Int) (l : List (Int × Int)) : ∀ n v, v + n = l.length → (∀ j, v ≤ j → j < l.length → ¬ badF h l j) → blameN h l v n = -1
  | 0, _, _, _ => rfl
  | n + 1, v, hv, hg => by
    rw [blameN, if_neg (hg v (by omega) (by omega))]
    exact blameN_good h l n (v + 1) (by omega) fun j h1 h2 => hg j (by omega) h2
theorem blameN_bad (h : List Int) (l : List (Int × Int)) (i : Nat) (hi : i < l.length) (hb : badF h l i) : ∀ n v, v + n = l.length → v ≤ i → (∀ j, v ≤ j → j < i → ¬ badF h l j) → blameN h l v n = i
  | 0, _, _, _, _ => by omega
  | n + 1, v, hv, hvi, hg => by
    by_cases e : v = i
    · subst e; rw [blameN, if_pos hb]
    · rw [blameN, if_neg (hg v (by omega) (by omega))]
      exact blameN_bad h l i hi hb n (v + 1) (by omega) (by omega) fun j h1 h2 => hg j (by omega) h2
theorem badF_set {h : List Int} {l : List (Int × Int)} {i j : Nat} {x : Int × Int} (hi : i < l.length) (hj : j < i) : badF h (l.set i x) j ↔ badF h l j := by
  unfold badF
  rw [gd_set _ _ _ _ hi, gd_set _ _ _ _ hi, if_neg (by omega), if_neg (by omega), List.length_set]
section
variable {h k : List Int} {lag c : Int}
theorem path_right (hcan : canF h k lag c = true) : blameF h (pathF h k c).1 = -1 := by
  have hp := path_ok hcan
  rw [blameF, if_pos ⟨(valid_holders (can_at hcan).1).1, hp.pos⟩]
  exact blameN_good _ _ _ _ (by omega) fun j _ h2 => path_good hcan j h2
theorem path_bent (hcan : canF h k lag c = true) (i : Nat) (h0 : 0 < i) (hi : i < (pathF h k c).1.length) (x : Int × Int) (hx : x.1 ≠ (gd (pathF h k c).1 i).1 ∨ x.2 < (gd (pathF h k c).1 (i - 1)).2) : blameF h ((pathF h k c).1.set i x) = i := by
  have hp := path_ok hcan
  rw [blameF, if_pos ⟨(valid_holders (can_at hcan).1).1, by rw [List.length_set]; exact hp.pos⟩]
  refine blameN_bad _ _ i (by rw [List.length_set]; exact hi) ?_ _ _ (by omega) (by omega) fun j _ h2 => fun hb => path_good hcan j (by omega) ((badF_set hi h2).1 hb)
  unfold badF
  rw [gd_set _ _ _ _ hi, gd_set _ _ _ _ hi, if_pos rfl, if_neg (by omega)]
  have := (hp.step (i - 1) (by omega)).1
  rw [show i - 1 + 1 = i from by omega] at this
  rcases hx with hx | hx
  · exact .inr (.inr (.inl ⟨h0, .inl (by rw [← this]; exact hx)⟩))
  · exact .inr (.inr (.inl ⟨h0, .inr hx⟩))
end
end Go.Proofs.Ytmiahmpobpokmaa

/- Chapter 24 in plain words: moves, names, the newest version. -/
namespace Go.Proofs.Ytmiahmpobpokmaa
open Go.Vai Go

/-! ### Moves -/
def moveM (k : List Int) (z n : Int) : List Int := if 0 ≤ z ∧ 0 ≤ gd k z.toNat then k.set z.toNat n else k
theorem moveM_length (k : List Int) (z n : Int) : (moveM k z n).length = k.length := by unfold moveM; split <;> simp
theorem moveM_at (k : List Int) (z n : Int) (hz : z < k.length) (j : Nat) : gd (moveM k z n) j = if (j : Int) = z ∧ 0 ≤ gd k j then n else gd k j := by
  unfold moveM
  split
  · rename_i h
    rw [gd_set _ _ _ _ (by omega)]
    by_cases e : j = z.toNat
    · rw [if_pos e, if_pos ⟨by omega, by rw [e]; exact h.2⟩]
    · rw [if_neg e, if_neg (by omega)]
  · rename_i h
    rw [if_neg]
    rintro ⟨h1, h2⟩
    exact h ⟨by omega, by rw [← h1]; simpa using h2⟩
def movedM (k : List Int) (old to n : Int) : List Int := moveM (moveM k old n) to n
theorem movedM_length (k : List Int) (old to n : Int) : (movedM k old to n).length = k.length := by simp [movedM, moveM_length]
theorem movedM_at (k : List Int) (old to n : Int) (h1 : old < k.length) (h2 : to < k.length) (hn : 0 ≤ n) (j : Nat) : gd (movedM k old to n) j = if ((j : Int) = old ∨ (j : Int) = to) ∧ 0 ≤ gd k j then n else gd k j := by
  unfold movedM
  rw [moveM_at _ _ _ (by rw [moveM_length]; exact h2), moveM_at _ _ _ h1]
  by_cases a : (j : Int) = old <;> by_cases b : (j : Int) = to <;> by_cases d : 0 ≤ gd k j <;> simp [a, b, d] <;> omega

section
variable {h k g m : List Int} {old to : Int}
theorem decide_moved (hg : ∀ v : Nat, v < h.length → gd g v = gd h v) (hm : ∀ c : Int, 0 ≤ c → c ≠ old → c ≠ to → gd m c.toNat = gd k c.toNat) (hneg : ∀ c : Nat, gd m c < 0 ↔ gd k c < 0)
    {c u : Int} (hc : 0 ≤ c) (h1 : c ≠ old) (h2 : c ≠ to) (hw : max (gd k c.toNat) u ≤ (h.length : Int) - 1) (hw0 : 0 ≤ max (gd k c.toNat) u) : decideF g m c u = decideF h k c u := by
  unfold decideF
  rw [hm c hc h1 h2, hg _ (by omega)]
  simp only [hneg]
theorem walk_moved {lag : Int} (hv : validF h k lag = true) (hg : ∀ v : Nat, v < h.length → gd g v = gd h v) (hm : ∀ c : Int, 0 ≤ c → c ≠ old → c ≠ to → gd m c.toNat = gd k c.toNat) (hneg : ∀ c : Nat, gd m c < 0 ↔ gd k c < 0) :
    ∀ (n n' : Nat) (c u : Int), AtF h k c u → (h.length : Int) - u ≤ n → (h.length : Int) - u ≤ n' →
      (∃ i, i < (walkF h k n c u).1.length ∧ i < (walkF g m n' c u).1.length ∧ ((gd (walkF g m n' c u).1 i).1 = old ∨ (gd (walkF g m n' c u).1 i).1 = to) ∧ (gd (walkF h k n c u).1 i).1 = (gd (walkF g m n' c u).1 i).1 ∧
        ∀ j, j < i → gd (walkF h k n c u).1 j = gd (walkF g m n' c u).1 j ∧ (gd (walkF g m n' c u).1 j).1 ≠ old ∧ (gd (walkF g m n' c u).1 j).1 ≠ to) ∨
      ((walkF h k n c u).1 = (walkF g m n' c u).1 ∧ ∀ x ∈ (walkF g m n' c u).1, x.1 ≠ old ∧ x.1 ≠ to)
  | 0, _, c, u, ha, h1, _ => by have := ha.2.2.2.2.1; omega
  | _ + 1, 0, c, u, ha, _, h1 => by have := ha.2.2.2.2.1; omega
  | n + 1, n' + 1, c, u, ha, h1, h2 => by
    have head : ∀ (h k : List Int) (n : Nat), 0 < (walkF h k (n + 1) c u).1.length ∧ (gd (walkF h k (n + 1) c u).1 0).1 = c := fun h k n => by
      unfold walkF; split <;> simp
    by_cases hc : c = old ∨ c = to
    · refine .inl ⟨0, (head _ _ _).1, (head _ _ _).1, ?_, ?_, fun j hj => by omega⟩
      · rw [(head g m n').2]; exact hc
      · rw [(head h k n).2, (head g m n').2]
    · have hco : c ≠ old := fun e => hc (.inl e)
      have hct : c ≠ to := fun e => hc (.inr e)
      obtain ⟨s1, s2, s3, s4, s5⟩ := at_step hv ha
      have hd : decideF g m c u = decideF h k c u := decide_moved hg hm hneg ha.1 hco hct (by omega) (by omega)
      by_cases he : (decideF h k c u).2.2 = 0
      · have e1 : walkF h k (n + 1) c u = ((c, (decideF h k c u).1) :: (walkF h k n (decideF h k c u).2.1 (decideF h k c u).1).1, (walkF h k n (decideF h k c u).2.1 (decideF h k c u).1).2) := by rw [walkF, if_pos he]
        have e2 : walkF g m (n' + 1) c u = ((c, (decideF h k c u).1) :: (walkF g m n' (decideF h k c u).2.1 (decideF h k c u).1).1, (walkF g m n' (decideF h k c u).2.1 (decideF h k c u).1).2) := by rw [walkF, hd, if_pos he]
        rcases s5 with ⟨_, s6, s7, s8⟩ | ⟨_, s6⟩
        · rw [e1, e2]
          rcases walk_moved hv hg hm hneg n n' _ _ s8 (by omega) (by omega) with ⟨i, i1, i2, i3, i4, i5⟩ | ⟨j1, j2⟩
          · refine .inl ⟨i + 1, by simpa using i1, by simpa using i2, by simpa using i3, by simpa using i4, fun j hj => ?_⟩
            cases j with
            | zero => simp only [gd_cons_zero]; exact ⟨trivial, hco, hct⟩
            | succ j => simp only [gd_cons_succ]; exact i5 j (by omega)
          · refine .inr ⟨by simp only; rw [j1], fun x hx => ?_⟩
            rcases List.mem_cons.1 hx with rfl | hx
            · exact ⟨hco, hct⟩
            · exact j2 x hx
        · omega
      · have e1 : walkF h k (n + 1) c u = ([(c, (decideF h k c u).1)], (decideF h k c u).2.2) := by rw [walkF, if_neg he]
        have e2 : walkF g m (n' + 1) c u = ([(c, (decideF h k c u).1)], (decideF h k c u).2.2) := by rw [walkF, hd, if_neg he]
        rw [e1, e2]
        exact .inr ⟨rfl, fun x hx => by simp at hx; subst hx; exact ⟨hco, hct⟩⟩
end

section
variable {h k : List Int} {lag old to : Int}
theorem moved_valid (hv : validF h k lag = true) (hl : lag ≤ 9) (hh : h.length ≤ 29) (ho : old = gd h (h.length - 1)) (ht : -1 ≤ to ∧ to ≤ 7) : validF (h ++ [to]) (movedM k old to h.length) (lag + 1) = true := by
  obtain ⟨g1, g2, g3, g4, g5, g6⟩ := valid_holders hv
  have hlast := holders_at g1 (h.length - 1) (by omega)
  have hlen : ((h ++ [to]).length : Int) = h.length + 1 := by simp
  refine validF_of ?_ (by rw [movedM_length, g2]) (by omega) fun c hc => ?_
  · have g1' := g1
    simp only [holdersF, Bool.and_eq_true] at g1' ⊢
    refine ⟨(inF_iff _ _ _).2 (by omega), List.all_eq_true.2 fun x hx => ?_⟩
    rcases List.mem_append.1 hx with hx | hx
    · exact List.all_eq_true.1 g1'.2 x hx
    · simp at hx; subst hx; exact (inF_iff _ _ _).2 ht
  · rw [movedM_at _ _ _ _ (by omega) (by omega) (by omega)]
    rcases valid_all hv c hc with h1 | ⟨h1, h2, h3, h4⟩
    · rw [if_neg (by omega)]; exact .inl h1
    · have hgd : ∀ i, i < h.length → gd (h ++ [to]) i = gd h i := fun i hi => gd_append_left _ _ _ hi
      have hgl : gd (h ++ [to]) h.length = to := by rw [gd_append_right _ _ _ (Nat.le_refl _), Nat.sub_self, gd_cons_zero]
      split
      · rename_i e
        refine .inr ⟨by omega, by omega, by omega, fun i a b _ => ?_⟩
        have : i < h.length + 1 := by simpa using b
        omega
      · rename_i e
        refine .inr ⟨by omega, by omega, by omega, fun i a b d => ?_⟩
        have hb : i < h.length + 1 := by simpa using b
        unfold turnsF at d
        by_cases hi : i = h.length
        · subst hi
          rw [hgl, hgd _ (by omega)] at d
          omega
        · rw [hgd _ (by omega), hgd _ (by omega)] at d
          exact h4 i a (by omega) d
theorem moved_can (hv : validF h k lag = true) (hl : lag ≤ 9) (hh : h.length ≤ 29) (ho : old = gd h (h.length - 1)) (ht : -1 ≤ to ∧ to ≤ 7) (d : Int) (hd : 0 ≤ d ∧ d ≤ 7) :
    canF (h ++ [to]) (movedM k old to h.length) (lag + 1) d = canF h k lag d := by
  obtain ⟨g1, g2, g3, g4, g5, g6⟩ := valid_holders hv
  have hlast := holders_at g1 (h.length - 1) (by omega)
  have h1 := moved_valid hv hl hh ho ht
  simp only [canF, h1, hv, Bool.true_and]
  rw [movedM_at _ _ _ _ (by omega) (by omega) (by omega)]
  congr 1
  by_cases hk : 0 ≤ gd k d.toNat
  · split <;> simp [hk] <;> omega
  · rw [if_neg (by omega)]
/-- The paths before and after. -/
theorem moved_path (hv : validF h k lag = true) (hh : h.length ≤ 29) (ho : old = gd h (h.length - 1)) (ht : -1 ≤ to ∧ to ≤ 7) {d : Int} (hcan : canF h k lag d = true) :
    (∃ i, i < (pathF h k d).1.length ∧ i < (pathF (h ++ [to]) (movedM k old to h.length) d).1.length ∧ ((gd (pathF (h ++ [to]) (movedM k old to h.length) d).1 i).1 = old ∨ (gd (pathF (h ++ [to]) (movedM k old to h.length) d).1 i).1 = to) ∧
        (gd (pathF h k d).1 i).1 = (gd (pathF (h ++ [to]) (movedM k old to h.length) d).1 i).1 ∧
        ∀ j, j < i → gd (pathF h k d).1 j = gd (pathF (h ++ [to]) (movedM k old to h.length) d).1 j ∧ (gd (pathF (h ++ [to]) (movedM k old to h.length) d).1 j).1 ≠ old ∧ (gd (pathF (h ++ [to]) (movedM k old to h.length) d).1 j).1 ≠ to) ∨
      ((pathF h k d).1 = (pathF (h ++ [to]) (movedM k old to h.length) d).1 ∧ ∀ x ∈ (pathF (h ++ [to]) (movedM k old to h.length) d).1, x.1 ≠ old ∧ x.1 ≠ to) := by
  obtain ⟨g1, g2, g3, g4, g5, g6⟩ := valid_holders hv
  have hlast := holders_at g1 (h.length - 1) (by omega)
  have at' := movedM_at k old to h.length (by omega) (by omega) (by omega)
  refine walk_moved hv (fun v hv' => gd_append_left _ _ _ hv') (fun c h0 h1 h2 => ?_) (fun c => ?_) (h.length + 1) ((h ++ [to]).length + 1) d (-1) (can_at hcan).2 (by omega) (by simp; omega)
  · rw [at', if_neg (by omega)]
  · rw [at']; split <;> omega
end

/-! ### Names -/
def rotF (t c : Int) : Int := if c < 0 then -1 else (c + t).tmod 8
theorem rotF_in {t c : Int} (ht : 0 ≤ t ∧ t ≤ 7) (hc : -1 ≤ c ∧ c ≤ 7) : -1 ≤ rotF t c ∧ rotF t c ≤ 7 ∧ (rotF t c < 0 ↔ c < 0) ∧ (c < 0 → rotF t c = c) := by
  unfold rotF; split
  · omega
  · rw [Int.tmod_eq_emod_of_nonneg (by omega)]; omega
theorem rotF_inj {t c d : Int} (ht : 0 ≤ t ∧ t ≤ 7) (hc : -1 ≤ c ∧ c ≤ 7) (hd : -1 ≤ d ∧ d ≤ 7) : rotF t c = rotF t d ↔ c = d := by
  refine ⟨fun h => ?_, fun h => by rw [h]⟩
  unfold rotF at h
  split at h <;> split at h
  · omega
  · rw [Int.tmod_eq_emod_of_nonneg (by omega)] at h; omega
  · rw [Int.tmod_eq_emod_of_nonneg (by omega)] at h; omega
  · rw [Int.tmod_eq_emod_of_nonneg (by omega), Int.tmod_eq_emod_of_nonneg (by omega)] at h; omega
theorem rotF_hit {t : Int} (ht : 0 ≤ t ∧ t ≤ 7) (j : Nat) (hj : j < 8) : ∃ c : Nat, c < 8 ∧ rotF t c = j := by
  refine ⟨((j : Int) - t + 8).toNat % 8, Nat.mod_lt _ (by omega), ?_⟩
  unfold rotF
  rw [if_neg (by omega), Int.tmod_eq_emod_of_nonneg (by omega)]; omega
section
variable {h k m : List Int} {lag t : Int}
abbrev rotH (t : Int) (h : List Int) : List Int := h.map (rotF t)
theorem rotH_at (t : Int) (h : List Int) (i : Nat) (hi : i < h.length) : gd (rotH t h) i = rotF t (gd h i) := by
  have : (rotH t h)[i]? = some (rotF t (gd h i)) := by rw [List.getElem?_map, gd_some h i hi]; rfl
  simp [gd, this]
/-- What is known by the other numbers. -/
def TurnedF (t : Int) (k m : List Int) : Prop := m.length = 8 ∧ ∀ c : Nat, c < 8 → gd m (rotF t c).toNat = gd k c
theorem turned_valid (hv : validF h k lag = true) (ht : 0 ≤ t ∧ t ≤ 7) (hm : TurnedF t k m) : validF (rotH t h) m lag = true := by
  obtain ⟨g1, g2, g3, g4, g5, g6⟩ := valid_holders hv
  have hlen : (rotH t h).length = h.length := by simp [rotH]
  refine validF_of ?_ hm.1 ⟨g3, g4⟩ fun j hj => ?_
  · have g1' := g1
    simp only [holdersF, Bool.and_eq_true] at g1' ⊢
    refine ⟨by rw [hlen]; exact g1'.1, List.all_eq_true.2 fun x hx => ?_⟩
    obtain ⟨y, hy, rfl⟩ := List.mem_map.1 hx
    have := (inF_iff _ _ _).1 (List.all_eq_true.1 g1'.2 y hy)
    have := rotF_in ht this
    exact (inF_iff _ _ _).2 ⟨this.1, this.2.1⟩
  · obtain ⟨c, hc, he⟩ := rotF_hit ht j hj
    have e := hm.2 c hc
    rw [he, Int.toNat_natCast] at e
    rw [e, hlen]
    rcases valid_all hv c hc with h1 | ⟨h1, h2, h3, h4⟩
    · exact .inl h1
    · refine .inr ⟨h1, h2, h3, fun i a b d => h4 i a b ?_⟩
      unfold turnsF at d ⊢
      rw [rotH_at _ _ _ b, rotH_at _ _ _ (by omega), ← he] at d
      have i1 := holders_at g1 i b
      have i2 := holders_at g1 (i - 1) (by omega)
      have q1 := rotF_inj ht i1 i2
      have q2 := rotF_inj ht i1 (d := c) (by omega)
      have q3 := rotF_inj ht i2 (d := c) (by omega)
      rw [Ne, q1, q2, q3] at d
      exact d
theorem turned_can (hv : validF h k lag = true) (ht : 0 ≤ t ∧ t ≤ 7) (hm : TurnedF t k m) (d : Int) (hd : 0 ≤ d ∧ d ≤ 7) : canF (rotH t h) m lag (rotF t d) = canF h k lag d := by
  have h1 := turned_valid hv ht hm
  have h2 := rotF_in ht (c := d) (by omega)
  simp only [canF, h1, hv, Bool.true_and]
  have e := hm.2 d.toNat (by omega)
  rw [show ((d.toNat : Nat) : Int) = d from by omega] at e
  rw [e]
  congr 1
  simp only [decide_eq_decide]
  omega
theorem turned_decide (hv : validF h k lag = true) (ht : 0 ≤ t ∧ t ≤ 7) (hm : TurnedF t k m) {c u : Int} (ha : AtF h k c u) :
    decideF (rotH t h) m (rotF t c) u = ((decideF h k c u).1, if (decideF h k c u).2.2 = 0 then rotF t (decideF h k c u).2.1 else (decideF h k c u).2.1, (decideF h k c u).2.2) := by
  obtain ⟨g1, g2, g3, g4, g5, g6⟩ := valid_holders hv
  have hk := valid_known' hv c.toNat (by have := ha.2.1; omega)
  obtain ⟨a1, a2, a3, a4, a5, a6⟩ := ha
  have hw := holders_at g1 (max (gd k c.toNat) u).toNat (by omega)
  have e := hm.2 c.toNat (by omega)
  rw [show ((c.toNat : Nat) : Int) = c from by omega] at e
  unfold decideF
  rw [e, rotH_at _ _ _ (by omega)]
  have r1 := rotF_in ht hw
  have r2 := rotF_inj ht hw (d := c) (by omega)
  by_cases b1 : gd h (max (gd k c.toNat) u).toNat = c
  · rw [if_pos b1, if_pos (r2.2 b1)]; simp
  · rw [if_neg b1, if_neg (fun x => b1 (r2.1 x))]
    by_cases b2 : gd h (max (gd k c.toNat) u).toNat < 0
    · rw [if_pos b2, if_pos (r1.2.2.1.2 b2)]; simp
    · rw [if_neg b2, if_neg (fun x => b2 (r1.2.2.1.1 x))]
      have e2 := hm.2 (gd h (max (gd k c.toNat) u).toNat).toNat (by omega)
      rw [show (((gd h (max (gd k c.toNat) u).toNat).toNat : Nat) : Int) = gd h (max (gd k c.toNat) u).toNat from by omega] at e2
      rw [e2]
      split <;> simp
theorem turned_walk (hv : validF h k lag = true) (ht : 0 ≤ t ∧ t ≤ 7) (hm : TurnedF t k m) : ∀ (n : Nat) (c u : Int), AtF h k c u → (h.length : Int) - u ≤ n →
    walkF (rotH t h) m n (rotF t c) u = ((walkF h k n c u).1.map fun x => (rotF t x.1, x.2), (walkF h k n c u).2)
  | 0, c, u, ha, hn => by have := ha.2.2.2.2.1; omega
  | n + 1, c, u, ha, hn => by
    obtain ⟨s1, s2, s3, s4, s5⟩ := at_step hv ha
    have hd := turned_decide hv ht hm ha
    by_cases he : (decideF h k c u).2.2 = 0
    · rw [if_pos he] at hd
      rcases s5 with ⟨_, s6, s7, s8⟩ | ⟨_, s6⟩
      · have ih := turned_walk hv ht hm n _ _ s8 (by omega)
        rw [walkF, hd, walkF, if_pos he]
        simp only [he, if_true, ih, List.map_cons]
      · omega
    · rw [if_neg he] at hd
      rw [walkF, hd, walkF, if_neg he]
      simp only [if_neg he, List.map_cons, List.map_nil]
theorem turned_path (hv : validF h k lag = true) (ht : 0 ≤ t ∧ t ≤ 7) (hm : TurnedF t k m) {d : Int} (hcan : canF h k lag d = true) :
    pathF (rotH t h) m (rotF t d) = ((pathF h k d).1.map fun x => (rotF t x.1, x.2), (pathF h k d).2) := by
  unfold pathF
  rw [show (rotH t h).length = h.length from by simp [rotH]]
  exact turned_walk hv ht hm _ _ _ (can_at hcan).2 (by omega)
end

/-! ### The newest version -/
section
variable {h k : List Int} {n : Int}
theorem newest_valid (hh : holdersF h = true) (hk : k.length = 8) (hn : n = (h.length : Int) - 1) (hall : ∀ c : Nat, c < 8 → gd k c = -1 ∨ gd k c = n) : validF h k 0 = true := by
  have hl := holdersF_pos hh
  refine validF_of hh hk (by omega) fun c hc => ?_
  rcases hall c hc with h1 | h1
  · exact .inl h1
  · exact .inr ⟨by omega, by omega, by omega, fun i a b _ => by omega⟩
theorem newest_path (hh : holdersF h = true) (hk : k.length = 8) (hn : n = (h.length : Int) - 1) (hall : ∀ c : Nat, c < 8 → gd k c = -1 ∨ gd k c = n) {d : Int} (hd : 0 ≤ d ∧ d ≤ 7) (hkd : gd k d.toNat = n) :
    pathF h k d = if gd h n.toNat = -1 then ([(d, n)], 2) else if gd k (gd h n.toNat).toNat = -1 then ([(d, n)], 3) else if gd h n.toNat = d then ([(d, n)], 1) else ([(d, n), (gd h n.toNat, n)], 1) := by
  have hl := holdersF_pos hh
  have hw := holders_at hh n.toNat (by omega)
  have e0 : pathF h k d = walkF h k ((h.length - 1) + 2) d (-1) := by unfold pathF; congr 1; omega
  have m1 : max n (-1) = n := by omega
  have m2 : max n n = n := by omega
  rw [e0]
  by_cases b1 : gd h n.toNat = -1
  · have hdec : decideF h k d (-1) = (n, -1, 2) := by unfold decideF; rw [hkd, m1, if_neg (by omega), if_pos (by omega)]
    rw [if_pos b1, walkF, hdec]; simp
  · rw [if_neg b1]
    by_cases b2 : gd k (gd h n.toNat).toNat = -1
    · have hne : gd h n.toNat ≠ d := fun e => by rw [e, hkd] at b2; omega
      have hdec : decideF h k d (-1) = (n, -1, 3) := by unfold decideF; rw [hkd, m1, if_neg hne, if_neg (by omega), if_pos (by omega)]
      rw [if_pos b2, walkF, hdec]; simp
    · rw [if_neg b2]
      have hx := (hall (gd h n.toNat).toNat (by omega)).resolve_left b2
      by_cases b3 : gd h n.toNat = d
      · have hdec : decideF h k d (-1) = (n, -1, 1) := by unfold decideF; rw [hkd, m1, if_pos b3]
        rw [if_pos b3, walkF, hdec]; simp
      · have hdec : decideF h k d (-1) = (n, gd h n.toNat, 0) := by unfold decideF; rw [hkd, m1, if_neg b3, if_neg (by omega), if_neg (by omega)]
        have hdec2 : decideF h k (gd h n.toNat) n = (n, -1, 1) := by unfold decideF; rw [hx, m2, if_pos rfl]
        rw [if_neg b3, walkF, hdec]; simp only; rw [walkF, hdec2]; simp
end
end Go.Proofs.Ytmiahmpobpokmaa

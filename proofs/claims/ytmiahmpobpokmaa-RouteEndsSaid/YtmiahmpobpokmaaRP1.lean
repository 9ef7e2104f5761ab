/- Chapter 24 in plain words: what paths are like. -/
import Derived.Test.YtmiahmpobpokmaaRM
namespace Go.Proofs.Ytmiahmpobpokmaa
open Go.Vai Go

/-- From what a carrier knows on, it holds the number always or never. -/
theorem stays {h k : List Int} {lag : Int} (hv : validF h k lag = true) {c : Int} (hc : 0 ≤ c ∧ c ≤ 7) (hk : 0 ≤ gd k c.toNat) (a : Nat) (ha : gd k c.toNat ≤ a) : ∀ d : Nat, a + d < h.length → (gd h (a + d) = c ↔ gd h a = c)
  | 0, _ => Iff.rfl
  | d + 1, hd => by
    rw [← stays hv hc hk a ha d (by omega)]
    have hkn := valid_known hv c.toNat (by omega)
    have hl := ((leastF_le h lag c.toNat (gd k c.toNat) (h.length - 1)).1 (by omega)).2.2 (a + (d + 1)) (by omega) (by omega)
    have e : a + (d + 1) - 1 = a + d := by omega
    have ec : ((c.toNat : Nat) : Int) = c := by omega
    simp only [turnsF, e, ec] at hl
    by_cases hq : gd h (a + (d + 1)) = gd h (a + d)
    · rw [hq]
    · constructor
      · intro h1; have := hl ⟨hq, .inl h1⟩; omega
      · intro h1; have := hl ⟨hq, .inr h1⟩; omega
theorem stays' {h k : List Int} {lag : Int} (hv : validF h k lag = true) {c : Int} (hc : 0 ≤ c ∧ c ≤ 7) (hk : 0 ≤ gd k c.toNat) {a b : Int} (ha : gd k c.toNat ≤ a) (hab : a ≤ b) (hb : b ≤ (h.length : Int) - 1) : gd h b.toNat = c ↔ gd h a.toNat = c := by
  have := stays hv hc hk a.toNat (by omega) (b - a).toNat (by omega)
  rwa [show a.toNat + (b - a).toNat = b.toNat from by omega] at this

theorem decide_go {h k : List Int} {c u : Int} (he : (decideF h k c u).2.2 = 0) : (decideF h k c u).2.1 = gd h (decideF h k c u).1.toNat ∧ (decideF h k c u).2.1 ≠ c ∧ (decideF h k c u).1 = max (gd k c.toNat) u := by
  revert he
  unfold decideF
  split
  · intro h; simp at h
  · rename_i h1
    split
    · intro h; simp at h
    · split
      · intro h; simp at h
      · intro _; exact ⟨rfl, h1, rfl⟩
theorem decide_w (h k : List Int) (c u : Int) : (decideF h k c u).1 = max (gd k c.toNat) u := by
  unfold decideF; split
  · rfl
  · split
    · rfl
    · split <;> rfl

/-- What a path is like. -/
structure PathOK (h k : List Int) (c u : Int) (p : List (Int × Int)) (e : Int) : Prop where
  pos : 0 < p.length
  zero : gd p 0 = (c, max (gd k c.toNat) u)
  step : ∀ i, i + 1 < p.length → (gd p (i + 1)).1 = gd h (gd p i).2.toNat ∧ (gd p (i + 1)).1 ≠ (gd p i).1 ∧ (gd p (i + 1)).2 = max (gd k (gd p (i + 1)).1.toNat) (gd p i).2
  fin : (e = 1 ∧ gd h (gd p (p.length - 1)).2.toNat = (gd p (p.length - 1)).1) ∨ (e = 2 ∧ gd h (gd p (p.length - 1)).2.toNat = -1) ∨
    (e = 3 ∧ 0 ≤ gd h (gd p (p.length - 1)).2.toNat ∧ gd h (gd p (p.length - 1)).2.toNat ≠ (gd p (p.length - 1)).1 ∧ gd k (gd h (gd p (p.length - 1)).2.toNat).toNat = -1)

theorem walk_ok {h k : List Int} {lag : Int} (hv : validF h k lag = true) : ∀ (n : Nat) (c u : Int), AtF h k c u → (h.length : Int) - u ≤ n → PathOK h k c u (walkF h k n c u).1 (walkF h k n c u).2
  | 0, c, u, ha, hn => by have := ha.2.2.2.2.1; omega
  | n + 1, c, u, ha, hn => by
    obtain ⟨s1, s2, s3, s4, s5⟩ := at_step hv ha
    by_cases he : (decideF h k c u).2.2 = 0
    · obtain ⟨g1, g2, g3⟩ := decide_go he
      have hw : walkF h k (n + 1) c u = ((c, (decideF h k c u).1) :: (walkF h k n (decideF h k c u).2.1 (decideF h k c u).1).1, (walkF h k n (decideF h k c u).2.1 (decideF h k c u).1).2) := by rw [walkF, if_pos he]
      rw [hw]
      rcases s5 with ⟨_, s6, s7, s8⟩ | ⟨_, s6⟩
      · have ih := walk_ok hv n _ _ s8 (by omega)
        generalize (walkF h k n (decideF h k c u).2.1 (decideF h k c u).1).1 = p at *
        generalize (walkF h k n (decideF h k c u).2.1 (decideF h k c u).1).2 = e at *
        refine ⟨by simp, by simp [g3], fun i hi => ?_, ?_⟩
        · cases i with
          | zero => simp only [gd_cons_zero, gd_cons_succ, ih.zero]; exact ⟨g1, g2, trivial⟩
          | succ i => simp only [gd_cons_succ]; exact ih.step i (by simpa using hi)
        · have hp := ih.pos
          have e1 : gd ((c, (decideF h k c u).1) :: p) (((c, (decideF h k c u).1) :: p).length - 1) = gd p (p.length - 1) := by
            rw [List.length_cons, show p.length + 1 - 1 = (p.length - 1) + 1 from by omega, gd_cons_succ]
          rw [e1]; exact ih.fin
      · omega
    · have hw : walkF h k (n + 1) c u = ([(c, (decideF h k c u).1)], (decideF h k c u).2.2) := by rw [walkF, if_neg he]
      rw [hw]
      refine ⟨by simp, by simp [decide_w], fun i hi => by simp at hi, ?_⟩
      simp only [List.length_singleton, Nat.sub_self, gd_cons_zero]
      rcases s5 with ⟨s6, _⟩ | ⟨_, s6⟩
      · exact absurd s6 he
      · exact s6

theorem path_ok {h k : List Int} {lag c : Int} (hcan : canF h k lag c = true) : PathOK h k c (-1) (pathF h k c).1 (pathF h k c).2 :=
  walk_ok (can_at hcan).1 _ _ _ (can_at hcan).2 (by omega)

section
variable {h k : List Int} {lag c : Int} {p : List (Int × Int)} {e : Int}
/-- Versions ascend. -/
theorem PathOK.asc {u : Int} (hp : PathOK h k c u p e) (i : Nat) (hi : i + 1 < p.length) : (gd p i).2 ≤ (gd p (i + 1)).2 := by
  have := (hp.step i hi).2.2; omega
theorem PathOK.asc' {u : Int} (hp : PathOK h k c u p e) (i : Nat) : ∀ d, i + d < p.length → (gd p i).2 ≤ (gd p (i + d)).2
  | 0, _ => by simp
  | d + 1, hd => by
    have := PathOK.asc' hp i d (by omega)
    have := hp.asc (i + d) (by omega)
    rw [← Nat.add_assoc]; omega
/-- Strictly, but for the last two. -/
theorem PathOK.strict {u : Int} (hp : PathOK h k c u p e) (i : Nat) (hi : i + 2 < p.length) : (gd p i).2 < (gd p (i + 1)).2 := by
  have h1 := hp.step i (by omega)
  have h2 := hp.step (i + 1) (by omega)
  have h3 := hp.asc i (by omega)
  by_cases e : (gd p i).2 = (gd p (i + 1)).2
  · rw [e] at h1; exact absurd (h2.1.trans h1.1.symm) h2.2.1
  · omega
theorem PathOK.climb {u : Int} (hp : PathOK h k c u p e) : ∀ i : Nat, i + 1 < p.length → (gd p 0).2 + i ≤ (gd p i).2
  | 0, _ => by simp
  | i + 1, hi => by
    have := PathOK.climb hp i (by omega)
    have := hp.strict i (by omega)
    push_cast; omega
/-- Nobody has the call twice. -/
theorem PathOK.once (hcan : canF h k lag c = true) (hp : PathOK h k c (-1) p e) (hin : ∀ x ∈ p, 0 ≤ x.1 ∧ x.1 ≤ 7 ∧ 0 ≤ gd k x.1.toNat ∧ 0 ≤ x.2 ∧ x.2 ≤ (h.length : Int) - 1) (m i : Nat) (hm : m < i) (hi : i < p.length) : (gd p m).1 ≠ (gd p i).1 := by
  intro e1
  obtain ⟨j, rfl⟩ : ∃ j, i = j + 1 := ⟨i - 1, by omega⟩
  have hv := (can_at hcan).1
  have hs := hp.step j (by omega)
  have hsm := hp.step m (by omega)
  have i1 := hin _ (gd_mem p m (by omega))
  have i2 := hin _ (gd_mem p j (by omega))
  have hkm : gd k (gd p m).1.toNat ≤ (gd p m).2 := by
    cases m with
    | zero => rw [hp.zero]; simp only; omega
    | succ m => have := (hp.step m (by omega)).2.2; omega
  have hmj : (gd p m).2 ≤ (gd p j).2 := by
    have := hp.asc' m (j - m) (by omega)
    rwa [show m + (j - m) = j from by omega] at this
  have := (stays' hv ⟨i1.1, i1.2.1⟩ i1.2.2.1 hkm hmj i2.2.2.2.2).1 (by rw [e1]; exact hs.1.symm)
  exact hsm.2.1 (hsm.1.trans this)
end

theorem path_least {h k : List Int} {lag c : Int} (hcan : canF h k lag c = true) : (h.length : Int) - 1 - lag ≤ gd k c.toNat ∧ 0 ≤ gd k c.toNat := by
  have hv := (can_at hcan).1
  have hc := (can_at hcan).2
  have hkn := valid_known hv c.toNat (by have := hc.2.1; omega)
  have := hc.2.2.1
  have hl := (leastF_le h lag c.toNat (gd k c.toNat) (h.length - 1)).1 (by omega)
  exact ⟨hl.2.1, this⟩
theorem path_short {h k : List Int} {lag c : Int} (hcan : canF h k lag c = true) : ((pathF h k c).1.length : Int) ≤ lag + 2 := by
  have hp := path_ok hcan
  have hin := path_in hcan
  have hl := path_least hcan
  by_cases h2 : (pathF h k c).1.length < 2
  · have := (valid_holders (can_at hcan).1).2.2.1; omega
  · have h1 := hp.climb ((pathF h k c).1.length - 2) (by omega)
    have h3 := hin _ (gd_mem (pathF h k c).1 ((pathF h k c).1.length - 2) (by omega))
    have h0 := hp.zero
    rw [h0] at h1; simp only at h1
    omega
end Go.Proofs.Ytmiahmpobpokmaa

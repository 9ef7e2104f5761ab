/- The contracts of chapter 24: deciding. -/
import Derived.Test.YtmiahmpobpokmaaR3
set_option maxRecDepth 100000
set_option linter.unusedSimpArgs false
namespace Go.Proofs.Ytmiahmpobpokmaa
open Go.Vai Go Go.Proofs

theorem up_ev (k : List Int) (c : Int) (hk : k.length = 8) : Ev Try.prog 38 [SL k, I c] (B (decide (0 ≤ c ∧ c ≤ 7) && decide (0 ≤ gd k c.toNat))) := by
  refine ev_of Try.func38 rfl (by kernel_rfl) mo (Nat.le_of_ble_eq_true rfl) ?_
  simp -implicitDefEqProofs (disch := omega) only [go_sem, ↓reduceIte, Nat.reduceEqDiff, Nat.reduceMul, Nat.reduceAdd, Nat.reduceDiv, Nat.reduceBEq, Nat.reduceLeDiff, Int.reduceToNat, Int.reduceNe, Int.reduceEq, Int.reduceLT, Int.reduceLE, Int.reduceBEq, Int.reduceBNe, ne_eq, not_true_eq_false, not_false_eq_true, decide_true, decide_false, List.length_map, Try.ntmps38]
  refine callC_at (in_ev _ _ _) ?_
  simp -implicitDefEqProofs (disch := omega) only [go_sem, ↓reduceIte, Nat.reduceEqDiff, Nat.reduceMul, Nat.reduceAdd, Nat.reduceDiv, Nat.reduceBEq, Nat.reduceLeDiff, Int.reduceToNat, Int.reduceNe, Int.reduceEq, Int.reduceLT, Int.reduceLE, Int.reduceBEq, Int.reduceBNe, ne_eq, not_true_eq_false, not_false_eq_true, decide_true, decide_false, List.length_map]
  refine branch_mk (fun hb => ?_) (fun hb => ?_)
  · rw [inF_not] at hb
    simp -implicitDefEqProofs (disch := omega) only [go_sem, ↓reduceIte, Nat.reduceEqDiff, Nat.reduceMul, Nat.reduceAdd, Nat.reduceDiv, Nat.reduceBEq, Nat.reduceLeDiff, Int.reduceToNat, Int.reduceNe, Int.reduceEq, Int.reduceLT, Int.reduceLE, Int.reduceBEq, Int.reduceBNe, ne_eq, not_true_eq_false, not_false_eq_true, decide_true, decide_false, List.length_map, Try.results38]
    simp [hb]
  · have hb := (inF_iff _ _ _).1 (by simpa using hb)
    simp -implicitDefEqProofs (disch := omega) only [go_sem, ↓reduceIte, Nat.reduceEqDiff, Nat.reduceMul, Nat.reduceAdd, Nat.reduceDiv, Nat.reduceBEq, Nat.reduceLeDiff, Int.reduceToNat, Int.reduceNe, Int.reduceEq, Int.reduceLT, Int.reduceLE, Int.reduceBEq, Int.reduceBNe, ne_eq, not_true_eq_false, not_false_eq_true, decide_true, decide_false, List.length_map, Try.results38]
    simp [hb]

theorem decideF_1 {h k : List Int} {c u : Int} (h1 : gd h (max (gd k c.toNat) u).toNat = c) : decideF h k c u = (max (gd k c.toNat) u, -1, 1) := by
  unfold decideF; rw [if_pos h1]
theorem decideF_2 {h k : List Int} {c u : Int} (h1 : ¬ gd h (max (gd k c.toNat) u).toNat = c) (h2 : gd h (max (gd k c.toNat) u).toNat < 0) : decideF h k c u = (max (gd k c.toNat) u, -1, 2) := by
  unfold decideF; rw [if_neg h1, if_pos h2]
theorem decideF_3 {h k : List Int} {c u : Int} (h1 : ¬ gd h (max (gd k c.toNat) u).toNat = c) (h2 : ¬ gd h (max (gd k c.toNat) u).toNat < 0) (h3 : gd k (gd h (max (gd k c.toNat) u).toNat).toNat < 0) : decideF h k c u = (max (gd k c.toNat) u, -1, 3) := by
  unfold decideF; rw [if_neg h1, if_neg h2, if_pos h3]
theorem decideF_4 {h k : List Int} {c u : Int} (h1 : ¬ gd h (max (gd k c.toNat) u).toNat = c) (h2 : ¬ gd h (max (gd k c.toNat) u).toNat < 0) (h3 : ¬ gd k (gd h (max (gd k c.toNat) u).toNat).toNat < 0) : decideF h k c u = (max (gd k c.toNat) u, gd h (max (gd k c.toNat) u).toNat, 0) := by
  unfold decideF; rw [if_neg h1, if_neg h2, if_neg h3]
theorem decide_ev (h k : List Int) (c u : Int) (hc : 0 ≤ c ∧ c < k.length) (hw : 0 ≤ max (gd k c.toNat) u ∧ max (gd k c.toNat) u < h.length) (hx : gd h (max (gd k c.toNat) u).toNat < k.length) : Ev Try.prog 41 [SL h, SL k, I c, I u] (T3 (decideF h k c u)) := by
  refine ev_of Try.func41 rfl (by kernel_rfl) mo (Nat.le_of_ble_eq_true rfl) ?_
  simp -implicitDefEqProofs (disch := omega) only [go_sem, ↓reduceIte, Nat.reduceEqDiff, Nat.reduceMul, Nat.reduceAdd, Nat.reduceDiv, Nat.reduceBEq, Nat.reduceLeDiff, Int.reduceToNat, Int.reduceNe, Int.reduceEq, Int.reduceLT, Int.reduceLE, Int.reduceBEq, Int.reduceBNe, ne_eq, not_true_eq_false, not_false_eq_true, decide_true, decide_false, List.length_map, Try.ntmps41]
  repeat' (first | ((with_reducible refine branch_mk (fun hb => ?_) (fun hb => ?_)) <;> simp -implicitDefEqProofs (disch := omega) only [go_sem, ↓reduceIte, Nat.reduceEqDiff, Nat.reduceMul, Nat.reduceAdd, Nat.reduceDiv, Nat.reduceBEq, Nat.reduceLeDiff, Int.reduceToNat, Int.reduceNe, Int.reduceEq, Int.reduceLT, Int.reduceLE, Int.reduceBEq, Int.reduceBNe, ne_eq, not_true_eq_false, not_false_eq_true, decide_true, decide_false, List.length_map, Try.results41, hb]))
  · rw [decideF_1 (by omega)]; rfl
  · rw [decideF_2 (by omega) (by omega)]; rfl
  · rw [decideF_3 (by omega) (by omega) (by omega)]; rfl
  · rw [decideF_4 (by omega) (by omega) (by omega)]; rfl
theorem decideR_ev (h k : List Int) (c u : Int) (hc : 0 ≤ c ∧ c < k.length) (hw : 0 ≤ max (gd k c.toNat) u ∧ max (gd k c.toNat) u < h.length) (hx : -1 ≤ gd h (max (gd k c.toNat) u).toNat ∧ gd h (max (gd k c.toNat) u).toNat < k.length) : Ev Try.prog 39 [SL h, SL k, I c, I u] (T3 (decideF h k c u)) := by
  refine ev_of Try.func39 rfl (by kernel_rfl) mo (Nat.le_of_ble_eq_true rfl) ?_
  simp -implicitDefEqProofs (disch := omega) only [go_sem, ↓reduceIte, Nat.reduceEqDiff, Nat.reduceMul, Nat.reduceAdd, Nat.reduceDiv, Nat.reduceBEq, Nat.reduceLeDiff, Int.reduceToNat, Int.reduceNe, Int.reduceEq, Int.reduceLT, Int.reduceLE, Int.reduceBEq, Int.reduceBNe, ne_eq, not_true_eq_false, not_false_eq_true, decide_true, decide_false, List.length_map, Try.ntmps39]
  repeat' (first | ((with_reducible refine branch_mk (fun hb => ?_) (fun hb => ?_)) <;> simp -implicitDefEqProofs (disch := omega) only [go_sem, ↓reduceIte, Nat.reduceEqDiff, Nat.reduceMul, Nat.reduceAdd, Nat.reduceDiv, Nat.reduceBEq, Nat.reduceLeDiff, Int.reduceToNat, Int.reduceNe, Int.reduceEq, Int.reduceLT, Int.reduceLE, Int.reduceBEq, Int.reduceBNe, ne_eq, not_true_eq_false, not_false_eq_true, decide_true, decide_false, List.length_map, Try.results39, hb]))
  · rw [decideF_1 (by omega)]; rfl
  · rw [decideF_2 (by omega) (by omega)]; rfl
  · rw [decideF_3 (by omega) (by omega) (by omega)]; rfl
  · rw [decideF_4 (by omega) (by omega) (by omega)]; rfl
theorem canCall_ev (h k : List Int) (lag c : Int) (hh : h.length ≤ 9223372036854775807) (hk : k.length ≤ 9223372036854775807) (hl : R64 lag) : Ev Try.prog 36 [SL h, SL k, I lag, I c] (B (canF h k lag c)) := by
  refine ev_of Try.func36 rfl (by kernel_rfl) mo (Nat.le_of_ble_eq_true rfl) ?_
  simp -implicitDefEqProofs (disch := omega) only [go_sem, ↓reduceIte, Nat.reduceEqDiff, Nat.reduceMul, Nat.reduceAdd, Nat.reduceDiv, Nat.reduceBEq, Nat.reduceLeDiff, Int.reduceToNat, Int.reduceNe, Int.reduceEq, Int.reduceLT, Int.reduceLE, Int.reduceBEq, Int.reduceBNe, ne_eq, not_true_eq_false, not_false_eq_true, decide_true, decide_false, List.length_map, Try.ntmps36]
  refine callC_at (valid_ev h k lag hh hk hl) ?_
  simp -implicitDefEqProofs (disch := omega) only [go_sem, ↓reduceIte, Nat.reduceEqDiff, Nat.reduceMul, Nat.reduceAdd, Nat.reduceDiv, Nat.reduceBEq, Nat.reduceLeDiff, Int.reduceToNat, Int.reduceNe, Int.reduceEq, Int.reduceLT, Int.reduceLE, Int.reduceBEq, Int.reduceBNe, ne_eq, not_true_eq_false, not_false_eq_true, decide_true, decide_false, List.length_map]
  refine branch_mk (fun hv => ?_) (fun hv => ?_)
  · have hv := valid_holders hv
    simp -implicitDefEqProofs (disch := omega) only [go_sem, ↓reduceIte, Nat.reduceEqDiff, Nat.reduceMul, Nat.reduceAdd, Nat.reduceDiv, Nat.reduceBEq, Nat.reduceLeDiff, Int.reduceToNat, Int.reduceNe, Int.reduceEq, Int.reduceLT, Int.reduceLE, Int.reduceBEq, Int.reduceBNe, ne_eq, not_true_eq_false, not_false_eq_true, decide_true, decide_false, List.length_map]
    refine callC_at (isWithin_ev _ _ _) ?_
    simp -implicitDefEqProofs (disch := omega) only [go_sem, ↓reduceIte, Nat.reduceEqDiff, Nat.reduceMul, Nat.reduceAdd, Nat.reduceDiv, Nat.reduceBEq, Nat.reduceLeDiff, Int.reduceToNat, Int.reduceNe, Int.reduceEq, Int.reduceLT, Int.reduceLE, Int.reduceBEq, Int.reduceBNe, ne_eq, not_true_eq_false, not_false_eq_true, decide_true, decide_false, List.length_map]
    refine branch_mk (fun hb => ?_) (fun hb => ?_)
    · have hb := (inF_iff _ _ _).1 hb
      simp -implicitDefEqProofs (disch := omega) only [go_sem, ↓reduceIte, Nat.reduceEqDiff, Nat.reduceMul, Nat.reduceAdd, Nat.reduceDiv, Nat.reduceBEq, Nat.reduceLeDiff, Int.reduceToNat, Int.reduceNe, Int.reduceEq, Int.reduceLT, Int.reduceLE, Int.reduceBEq, Int.reduceBNe, ne_eq, not_true_eq_false, not_false_eq_true, decide_true, decide_false, List.length_map, Try.results36]
      simp_all [canF]
    · simp -implicitDefEqProofs (disch := omega) only [go_sem, ↓reduceIte, Nat.reduceEqDiff, Nat.reduceMul, Nat.reduceAdd, Nat.reduceDiv, Nat.reduceBEq, Nat.reduceLeDiff, Int.reduceToNat, Int.reduceNe, Int.reduceEq, Int.reduceLT, Int.reduceLE, Int.reduceBEq, Int.reduceBNe, ne_eq, not_true_eq_false, not_false_eq_true, decide_true, decide_false, List.length_map, Try.results36]
      have hb := (inF_not _ _ _).1 (by simpa using hb)
      have : canF h k lag c = false := by
        simp only [canF, Bool.and_eq_false_iff, decide_eq_false_iff_not]
        exact .inr (.inl hb)
      rw [this]
  · simp -implicitDefEqProofs (disch := omega) only [go_sem, ↓reduceIte, Nat.reduceEqDiff, Nat.reduceMul, Nat.reduceAdd, Nat.reduceDiv, Nat.reduceBEq, Nat.reduceLeDiff, Int.reduceToNat, Int.reduceNe, Int.reduceEq, Int.reduceLT, Int.reduceLE, Int.reduceBEq, Int.reduceBNe, ne_eq, not_true_eq_false, not_false_eq_true, decide_true, decide_false, List.length_map, Try.results36]
    simp_all [canF]
/-- What is decided lies in the range. -/
theorem decide_in {h k : List Int} {lag c u : Int} (hcan : canF h k lag c = true) (hu : inF u (-1) ((h.length : Int) - 1) = true) :
    (0 ≤ c ∧ c < k.length) ∧ (0 ≤ max (gd k c.toNat) u ∧ max (gd k c.toNat) u < h.length) ∧ (-1 ≤ gd h (max (gd k c.toNat) u).toNat ∧ gd h (max (gd k c.toNat) u).toNat < k.length) := by
  simp only [canF, Bool.and_eq_true, decide_eq_true_eq] at hcan
  obtain ⟨hv, hc, hk⟩ := hcan
  obtain ⟨h1, h2, h3, h4, h5, h6⟩ := valid_holders hv
  have hu := (inF_iff _ _ _).1 hu
  have := valid_known' hv c.toNat (by omega)
  have := holders_at h1 (max (gd k c.toNat) u).toNat (by omega)
  omega
theorem Decide_ev (h k : List Int) (lag c u : Int) (hh : h.length ≤ 9223372036854775807) (hk : k.length ≤ 9223372036854775807) (hl : R64 lag) : Ev Try.prog 22 [SL h, SL k, I lag, I c, I u] (decR h k lag c u) := by
  refine ev_of Try.func22 rfl (by kernel_rfl) mo (Nat.le_of_ble_eq_true rfl) ?_
  simp -implicitDefEqProofs (disch := omega) only [go_sem, ↓reduceIte, Nat.reduceEqDiff, Nat.reduceMul, Nat.reduceAdd, Nat.reduceDiv, Nat.reduceBEq, Nat.reduceLeDiff, Int.reduceToNat, Int.reduceNe, Int.reduceEq, Int.reduceLT, Int.reduceLE, Int.reduceBEq, Int.reduceBNe, ne_eq, not_true_eq_false, not_false_eq_true, decide_true, decide_false, List.length_map, Try.ntmps22]
  refine callC_at (canCall_ev h k lag c hh hk hl) ?_
  simp -implicitDefEqProofs (disch := omega) only [go_sem, ↓reduceIte, Nat.reduceEqDiff, Nat.reduceMul, Nat.reduceAdd, Nat.reduceDiv, Nat.reduceBEq, Nat.reduceLeDiff, Int.reduceToNat, Int.reduceNe, Int.reduceEq, Int.reduceLT, Int.reduceLE, Int.reduceBEq, Int.reduceBNe, ne_eq, not_true_eq_false, not_false_eq_true, decide_true, decide_false, List.length_map]
  repeat' (first | ((with_reducible refine branch_mk (fun hb => ?_) (fun hb => ?_)) <;> simp -implicitDefEqProofs (disch := omega) only [go_sem, ↓reduceIte, Nat.reduceEqDiff, Nat.reduceMul, Nat.reduceAdd, Nat.reduceDiv, Nat.reduceBEq, Nat.reduceLeDiff, Int.reduceToNat, Int.reduceNe, Int.reduceEq, Int.reduceLT, Int.reduceLE, Int.reduceBEq, Int.reduceBNe, ne_eq, not_true_eq_false, not_false_eq_true, decide_true, decide_false, List.length_map, Try.results22, hb]) | ((with_reducible refine callC_id ?_); refine callC_at (isWithin_ev _ _ _) ?_; try simp -implicitDefEqProofs (disch := omega) only [go_sem, ↓reduceIte, Nat.reduceEqDiff, Nat.reduceMul, Nat.reduceAdd, Nat.reduceDiv, Nat.reduceBEq, Nat.reduceLeDiff, Int.reduceToNat, Int.reduceNe, Int.reduceEq, Int.reduceLT, Int.reduceLE, Int.reduceBEq, Int.reduceBNe, ne_eq, not_true_eq_false, not_false_eq_true, decide_true, decide_false, List.length_map, Try.results22]))
  · simp [decR, hb]
  · simp [decR, hb]
  · rename_i hcan
    obtain ⟨h1, h2, h3⟩ := decide_in (h := h) (k := k) (lag := lag) (c := c) (u := u) (by simpa using hcan) (by simpa using hb)
    refine callC_at (decide_ev h k c u h1 h2 h3.2) ?_
    simp -implicitDefEqProofs (disch := omega) only [go_sem, ↓reduceIte, Nat.reduceEqDiff, Nat.reduceMul, Nat.reduceAdd, Nat.reduceDiv, Nat.reduceBEq, Nat.reduceLeDiff, Int.reduceToNat, Int.reduceNe, Int.reduceEq, Int.reduceLT, Int.reduceLE, Int.reduceBEq, Int.reduceBNe, ne_eq, not_true_eq_false, not_false_eq_true, decide_true, decide_false, List.length_map, T3, Try.results22]
    rw [decR, if_pos ⟨by simpa using hcan, by simpa using hb⟩]
theorem DecideR_ev (h k : List Int) (lag c u : Int) (hh : h.length ≤ 9223372036854775807) (hk : k.length ≤ 9223372036854775807) (hl : R64 lag) : Ev Try.prog 23 [SL h, SL k, I lag, I c, I u] (decR h k lag c u) := by
  refine ev_of Try.func23 rfl (by kernel_rfl) mo (Nat.le_of_ble_eq_true rfl) ?_
  simp -implicitDefEqProofs (disch := omega) only [go_sem, ↓reduceIte, Nat.reduceEqDiff, Nat.reduceMul, Nat.reduceAdd, Nat.reduceDiv, Nat.reduceBEq, Nat.reduceLeDiff, Int.reduceToNat, Int.reduceNe, Int.reduceEq, Int.reduceLT, Int.reduceLE, Int.reduceBEq, Int.reduceBNe, ne_eq, not_true_eq_false, not_false_eq_true, decide_true, decide_false, List.length_map, Try.ntmps23]
  refine callC_at (validR_ev h k lag hh hk hl) ?_
  simp -implicitDefEqProofs (disch := omega) only [go_sem, ↓reduceIte, Nat.reduceEqDiff, Nat.reduceMul, Nat.reduceAdd, Nat.reduceDiv, Nat.reduceBEq, Nat.reduceLeDiff, Int.reduceToNat, Int.reduceNe, Int.reduceEq, Int.reduceLT, Int.reduceLE, Int.reduceBEq, Int.reduceBNe, ne_eq, not_true_eq_false, not_false_eq_true, decide_true, decide_false, List.length_map]
  repeat' (first | ((with_reducible refine branch_mk (fun hb => ?_) (fun hb => ?_)) <;> simp -implicitDefEqProofs (disch := omega) only [go_sem, ↓reduceIte, Nat.reduceEqDiff, Nat.reduceMul, Nat.reduceAdd, Nat.reduceDiv, Nat.reduceBEq, Nat.reduceLeDiff, Int.reduceToNat, Int.reduceNe, Int.reduceEq, Int.reduceLT, Int.reduceLE, Int.reduceBEq, Int.reduceBNe, ne_eq, not_true_eq_false, not_false_eq_true, decide_true, decide_false, List.length_map, Try.results23, hb]) | ((with_reducible refine callC_id ?_); refine callC_at (in_ev _ _ _) ?_; try simp -implicitDefEqProofs (disch := omega) only [go_sem, ↓reduceIte, Nat.reduceEqDiff, Nat.reduceMul, Nat.reduceAdd, Nat.reduceDiv, Nat.reduceBEq, Nat.reduceLeDiff, Int.reduceToNat, Int.reduceNe, Int.reduceEq, Int.reduceLT, Int.reduceLE, Int.reduceBEq, Int.reduceBNe, ne_eq, not_true_eq_false, not_false_eq_true, decide_true, decide_false, List.length_map, Try.results23]))
  · simp [decR, canF, hb]
  · simp [decR, hb]
  · rename_i hv
    have hv : validF h k lag = true := by simpa using hv
    refine callC_at (up_ev k c (valid_holders hv).2.1) ?_
    simp -implicitDefEqProofs (disch := omega) only [go_sem, ↓reduceIte, Nat.reduceEqDiff, Nat.reduceMul, Nat.reduceAdd, Nat.reduceDiv, Nat.reduceBEq, Nat.reduceLeDiff, Int.reduceToNat, Int.reduceNe, Int.reduceEq, Int.reduceLT, Int.reduceLE, Int.reduceBEq, Int.reduceBNe, ne_eq, not_true_eq_false, not_false_eq_true, decide_true, decide_false, List.length_map]
    refine branch_mk (fun hc => ?_) (fun hc => ?_)
    · simp -implicitDefEqProofs (disch := omega) only [go_sem, ↓reduceIte, Nat.reduceEqDiff, Nat.reduceMul, Nat.reduceAdd, Nat.reduceDiv, Nat.reduceBEq, Nat.reduceLeDiff, Int.reduceToNat, Int.reduceNe, Int.reduceEq, Int.reduceLT, Int.reduceLE, Int.reduceBEq, Int.reduceBNe, ne_eq, not_true_eq_false, not_false_eq_true, decide_true, decide_false, List.length_map, Try.results23]
      rw [decR, if_neg]
      rintro ⟨h1, _⟩
      simp only [canF, hv, Bool.true_and] at h1
      rw [h1] at hc; cases hc
    · simp -implicitDefEqProofs (disch := omega) only [go_sem, ↓reduceIte, Nat.reduceEqDiff, Nat.reduceMul, Nat.reduceAdd, Nat.reduceDiv, Nat.reduceBEq, Nat.reduceLeDiff, Int.reduceToNat, Int.reduceNe, Int.reduceEq, Int.reduceLT, Int.reduceLE, Int.reduceBEq, Int.reduceBNe, ne_eq, not_true_eq_false, not_false_eq_true, decide_true, decide_false, List.length_map]
      have hcan : canF h k lag c = true := by
        simp only [canF, hv, Bool.true_and]
        simpa [and_assoc] using hc
      obtain ⟨h1, h2, h3⟩ := decide_in (h := h) (k := k) (lag := lag) (c := c) (u := u) hcan (by simpa using hb)
      refine callC_at (decideR_ev h k c u h1 h2 h3) ?_
      simp -implicitDefEqProofs (disch := omega) only [go_sem, ↓reduceIte, Nat.reduceEqDiff, Nat.reduceMul, Nat.reduceAdd, Nat.reduceDiv, Nat.reduceBEq, Nat.reduceLeDiff, Int.reduceToNat, Int.reduceNe, Int.reduceEq, Int.reduceLT, Int.reduceLE, Int.reduceBEq, Int.reduceBNe, ne_eq, not_true_eq_false, not_false_eq_true, decide_true, decide_false, List.length_map, T3, Try.results23]
      rw [decR, if_pos ⟨hcan, by simpa using hb⟩]
end Go.Proofs.Ytmiahmpobpokmaa

/- The contracts of chapter 24: paths. -/
import Derived.Test.YtmiahmpobpokmaaR9
set_option maxRecDepth 100000
set_option linter.unusedSimpArgs false
namespace Go.Proofs.Ytmiahmpobpokmaa
open Go.Vai Go Go.Proofs

theorem hops_ev (h k : List Int) (c : Int) : Ev Try.prog 37 [SL h, SL k, I c] (.clo 47 [.nptr 22 1 [SL h], .nptr 22 1 [SL k], .nptr 3 1 [I c]]) := by
  refine ev_of Try.func37 rfl (by kernel_rfl) mo (Nat.le_of_ble_eq_true rfl) ?_
  simp -implicitDefEqProofs (disch := omega) only [go_sem, ↓reduceIte, Nat.reduceEqDiff, Nat.reduceMul, Nat.reduceAdd, Nat.reduceDiv, Nat.reduceBEq, Nat.reduceLeDiff, Int.reduceToNat, Int.reduceNe, Int.reduceEq, Int.reduceLT, Int.reduceLE, Int.reduceBEq, Int.reduceBNe, ne_eq, not_true_eq_false, not_false_eq_true, decide_true, decide_false, List.length_map, Try.ntmps37, Try.results37]

abbrev hopOf (x : Int × Int × Int) : Int × Int := (x.1, x.2.1)
def endF (d : List (Int × Int × Int)) : Int := if d = [] then 0 else (gd d (d.length - 1)).2.2
theorem endF_snoc (d : List (Int × Int × Int)) (x : Int × Int × Int) : endF (d ++ [x]) = x.2.2 := by
  unfold endF
  rw [if_neg (by simp), gd_append_right _ _ _ (by simp)]; simp
theorem steps_walk (h k : List Int) : ∀ (n : Nat) (c u : Int), (stepsF h k n c u).map hopOf = (walkF h k n c u).1
  | 0, _, _ => rfl
  | n + 1, c, u => by
    rw [stepsF, walkF]
    split
    · simp only [List.map_cons, steps_walk h k n]
    · rfl
theorem steps_ne (h k : List Int) (n : Nat) (c u : Int) : stepsF h k (n + 1) c u ≠ [] := by rw [stepsF]; split <;> simp
theorem steps_end {h k : List Int} {lag : Int} (hv : validF h k lag = true) : ∀ (n : Nat) (c u : Int), AtF h k c u → (h.length : Int) - u ≤ n → endF (stepsF h k n c u) = (walkF h k n c u).2
  | 0, c, u, ha, hn => by have := ha.2.2.2.2.1; omega
  | n + 1, c, u, ha, hn => by
    obtain ⟨s1, s2, s3, s4, s5⟩ := at_step hv ha
    rw [stepsF, walkF]
    split
    · rename_i he
      rcases s5 with ⟨_, s6, s7, s8⟩ | ⟨_, s6⟩
      · have ih := steps_end hv n _ _ s8 (by omega)
        simp only
        rw [← ih]
        obtain ⟨m, rfl⟩ : ∃ m, n = m + 1 := ⟨n - 1, by have := s8.2.2.2.2.1; omega⟩
        have hne := steps_ne h k m (decideF h k c u).2.1 (decideF h k c u).1
        generalize stepsF h k (m + 1) (decideF h k c u).2.1 (decideF h k c u).1 = l at *
        unfold endF
        rw [if_neg (by simp), if_neg hne]
        have := List.length_pos_iff.2 hne
        rw [List.length_cons, show l.length + 1 - 1 = (l.length - 1) + 1 from by omega, gd_cons_succ]
      · omega
    · rfl

theorem path_ev (h k : List Int) (lag c : Int) (hh : h.length ≤ 9223372036854775807) (hk : k.length ≤ 9223372036854775807) (hl : R64 lag) : Ev Try.prog 16 [SL h, SL k, I lag, I c] (pathR h k lag c) := by
  refine ev_of Try.func16 rfl (by kernel_rfl) mo (Nat.le_of_ble_eq_true rfl) ?_
  simp -implicitDefEqProofs (disch := omega) only [go_sem, ↓reduceIte, Nat.reduceEqDiff, Nat.reduceMul, Nat.reduceAdd, Nat.reduceDiv, Nat.reduceBEq, Nat.reduceLeDiff, Int.reduceToNat, Int.reduceNe, Int.reduceEq, Int.reduceLT, Int.reduceLE, Int.reduceBEq, Int.reduceBNe, ne_eq, not_true_eq_false, not_false_eq_true, decide_true, decide_false, List.length_map, Try.ntmps16]
  refine callC_at (canCall_ev h k lag c hh hk hl) ?_
  simp -implicitDefEqProofs (disch := omega) only [go_sem, ↓reduceIte, Nat.reduceEqDiff, Nat.reduceMul, Nat.reduceAdd, Nat.reduceDiv, Nat.reduceBEq, Nat.reduceLeDiff, Int.reduceToNat, Int.reduceNe, Int.reduceEq, Int.reduceLT, Int.reduceLE, Int.reduceBEq, Int.reduceBNe, ne_eq, not_true_eq_false, not_false_eq_true, decide_true, decide_false, List.length_map]
  refine branch_mk (fun hb => ?_) (fun hb => ?_)
  · simp -implicitDefEqProofs (disch := omega) only [go_sem, ↓reduceIte, Nat.reduceEqDiff, Nat.reduceMul, Nat.reduceAdd, Nat.reduceDiv, Nat.reduceBEq, Nat.reduceLeDiff, Int.reduceToNat, Int.reduceNe, Int.reduceEq, Int.reduceLT, Int.reduceLE, Int.reduceBEq, Int.reduceBNe, ne_eq, not_true_eq_false, not_false_eq_true, decide_true, decide_false, List.length_map, Try.results16]
    simp [pathR, hb]
  · simp -implicitDefEqProofs (disch := omega) only [go_sem, ↓reduceIte, Nat.reduceEqDiff, Nat.reduceMul, Nat.reduceAdd, Nat.reduceDiv, Nat.reduceBEq, Nat.reduceLeDiff, Int.reduceToNat, Int.reduceNe, Int.reduceEq, Int.reduceLT, Int.reduceLE, Int.reduceBEq, Int.reduceBNe, ne_eq, not_true_eq_false, not_false_eq_true, decide_true, decide_false, List.length_map]
    have hcan : canF h k lag c = true := by simpa using hb
    refine callC_at (hops_ev h k c) ?_
    simp -implicitDefEqProofs (disch := omega) only [go_sem, ↓reduceIte, Nat.reduceEqDiff, Nat.reduceMul, Nat.reduceAdd, Nat.reduceDiv, Nat.reduceBEq, Nat.reduceLeDiff, Int.reduceToNat, Int.reduceNe, Int.reduceEq, Int.reduceLT, Int.reduceLE, Int.reduceBEq, Int.reduceBNe, ne_eq, not_true_eq_false, not_false_eq_true, decide_true, decide_false, List.length_map]
    refine awpC_range ?_
    refine range_mk [35651968, 35651969, 35651970] [35651760, 35651776] 2228324 ((stepsF h k (h.length + 1) c (-1)).map YP)
      (fun xs σ => ∃ d r, stepsF h k (h.length + 1) c (-1) = d ++ r ∧ xs = r.map YP ∧ σ 35651776 = some ⟨3, 1, [I (endF d)]⟩ ∧ σ 35651760 = some ⟨23, 1, [.own 35651761 2 0 d.length]⟩ ∧ σ 35651761 = some ⟨40, 2, (d.map hopOf).map HP⟩)
      (g := 47) (caps := [.ptr 35651968 1 0 0, .ptr 35651969 1 0 0, .ptr 35651970 1 0 0]) ?_ ?_ ?_ ?_ ?_ ?_ ?_ ?_
    · simp -implicitDefEqProofs (disch := omega) only [go_sem, ↓reduceIte, Nat.reduceEqDiff, Nat.reduceMul, Nat.reduceAdd, Nat.reduceDiv, Nat.reduceBEq, Nat.reduceLeDiff, Int.reduceToNat, Int.reduceNe, Int.reduceEq, Int.reduceLT, Int.reduceLE, Int.reduceBEq, Int.reduceBNe, ne_eq, not_true_eq_false, not_false_eq_true, decide_true, decide_false, List.length_map]
    · refine hops_sok h k lag c _ _ _ _ hcan ?_ ?_ ?_ (by decide) (by decide) (by decide) (by decide) (by decide) (by decide) <;> simp -implicitDefEqProofs (disch := omega) only [go_sem, ↓reduceIte, Nat.reduceEqDiff, Nat.reduceMul, Nat.reduceAdd, Nat.reduceDiv, Nat.reduceBEq, Nat.reduceLeDiff, Int.reduceToNat, Int.reduceNe, Int.reduceEq, Int.reduceLT, Int.reduceLE, Int.reduceBEq, Int.reduceBNe, ne_eq, not_true_eq_false, not_false_eq_true, decide_true, decide_false, List.length_map]
    · intro x hx
      obtain ⟨y, _, rfl⟩ := List.mem_map.1 hx
      rfl
    · simp -implicitDefEqProofs (disch := omega) only [go_sem, ↓reduceIte, Nat.reduceEqDiff, Nat.reduceMul, Nat.reduceAdd, Nat.reduceDiv, Nat.reduceBEq, Nat.reduceLeDiff, Int.reduceToNat, Int.reduceNe, Int.reduceEq, Int.reduceLT, Int.reduceLE, Int.reduceBEq, Int.reduceBNe, ne_eq, not_true_eq_false, not_false_eq_true, decide_true, decide_false, List.length_map]
    · simp -implicitDefEqProofs (disch := omega) only [go_sem, ↓reduceIte, Nat.reduceEqDiff, Nat.reduceMul, Nat.reduceAdd, Nat.reduceDiv, Nat.reduceBEq, Nat.reduceLeDiff, Int.reduceToNat, Int.reduceNe, Int.reduceEq, Int.reduceLT, Int.reduceLE, Int.reduceBEq, Int.reduceBNe, ne_eq, not_true_eq_false, not_false_eq_true, decide_true, decide_false, List.length_map]
    · simp -implicitDefEqProofs (disch := omega) only [go_sem, ↓reduceIte, Nat.reduceEqDiff, Nat.reduceMul, Nat.reduceAdd, Nat.reduceDiv, Nat.reduceBEq, Nat.reduceLeDiff, Int.reduceToNat, Int.reduceNe, Int.reduceEq, Int.reduceLT, Int.reduceLE, Int.reduceBEq, Int.reduceBNe, ne_eq, not_true_eq_false, not_false_eq_true, decide_true, decide_false, List.length_map]
      exact ⟨[], _, rfl, rfl, rfl, rfl, rfl⟩
    · rintro E0 hE0 x rest σ ⟨d, r, hst, hxs, h76, h60, h61⟩
      have e11 : E0 11 = .ptr 35651760 1 0 0 := by rw [hE0]; simp -implicitDefEqProofs (disch := omega) only [go_sem, ↓reduceIte, Nat.reduceEqDiff, Nat.reduceMul, Nat.reduceAdd, Nat.reduceDiv, Nat.reduceBEq, Nat.reduceLeDiff, Int.reduceToNat, Int.reduceNe, Int.reduceEq, Int.reduceLT, Int.reduceLE, Int.reduceBEq, Int.reduceBNe, ne_eq, not_true_eq_false, not_false_eq_true, decide_true, decide_false, List.length_map]
      have e12 : E0 12 = .ptr 35651776 1 0 0 := by rw [hE0]; simp -implicitDefEqProofs (disch := omega) only [go_sem, ↓reduceIte, Nat.reduceEqDiff, Nat.reduceMul, Nat.reduceAdd, Nat.reduceDiv, Nat.reduceBEq, Nat.reduceLeDiff, Int.reduceToNat, Int.reduceNe, Int.reduceEq, Int.reduceLT, Int.reduceLE, Int.reduceBEq, Int.reduceBNe, ne_eq, not_true_eq_false, not_false_eq_true, decide_true, decide_false, List.length_map]
      obtain ⟨y, r', rfl, rfl, rfl⟩ : ∃ y r', r = y :: r' ∧ x = YP y ∧ rest = r'.map YP := by
        cases r with
        | nil => cases hxs
        | cons y r' => simp only [List.map_cons, List.cons.injEq] at hxs; exact ⟨y, r', rfl, hxs.1, hxs.2⟩
      clear hE0
      have hlen : d.length ≤ 31 := by
        have h1 := congrArg List.length (steps_walk h k (h.length + 1) c (-1))
        have h2 := (walk_length (h := h) (k := k) (h.length + 1) c (-1)).2
        have h3 := (valid_holders (can_at hcan).1).2.2.2.2.2
        rw [List.length_map, hst, List.length_append] at h1
        omega
      simp -implicitDefEqProofs (disch := omega) only [go_sem, ↓reduceIte, Nat.reduceEqDiff, Nat.reduceMul, Nat.reduceAdd, Nat.reduceDiv, Nat.reduceBEq, Nat.reduceLeDiff, Int.reduceToNat, Int.reduceNe, Int.reduceEq, Int.reduceLT, Int.reduceLE, Int.reduceBEq, Int.reduceBNe, ne_eq, not_true_eq_false, not_false_eq_true, decide_true, decide_false, List.length_map, e11, e12, h76, h60, h61]
      refine ⟨inL [], fun _ _ => rfl, d ++ [y], r', by rw [hst]; simp, rfl, ?_⟩
      simp -implicitDefEqProofs (disch := omega) only [go_sem, ↓reduceIte, Nat.reduceEqDiff, Nat.reduceMul, Nat.reduceAdd, Nat.reduceDiv, Nat.reduceBEq, Nat.reduceLeDiff, Int.reduceToNat, Int.reduceNe, Int.reduceEq, Int.reduceLT, Int.reduceLE, Int.reduceBEq, Int.reduceBNe, ne_eq, not_true_eq_false, not_false_eq_true, decide_true, decide_false, List.length_map, e11, e12, h76, h60, h61]
      exact ⟨by rw [endF_snoc], by simp⟩
    · rintro E0 hE0 σ ⟨d, r, hst, hxs, h76, h60, h61⟩
      have e11 : E0 11 = .ptr 35651760 1 0 0 := by rw [hE0]; simp -implicitDefEqProofs (disch := omega) only [go_sem, ↓reduceIte, Nat.reduceEqDiff, Nat.reduceMul, Nat.reduceAdd, Nat.reduceDiv, Nat.reduceBEq, Nat.reduceLeDiff, Int.reduceToNat, Int.reduceNe, Int.reduceEq, Int.reduceLT, Int.reduceLE, Int.reduceBEq, Int.reduceBNe, ne_eq, not_true_eq_false, not_false_eq_true, decide_true, decide_false, List.length_map]
      have e12 : E0 12 = .ptr 35651776 1 0 0 := by rw [hE0]; simp -implicitDefEqProofs (disch := omega) only [go_sem, ↓reduceIte, Nat.reduceEqDiff, Nat.reduceMul, Nat.reduceAdd, Nat.reduceDiv, Nat.reduceBEq, Nat.reduceLeDiff, Int.reduceToNat, Int.reduceNe, Int.reduceEq, Int.reduceLT, Int.reduceLE, Int.reduceBEq, Int.reduceBNe, ne_eq, not_true_eq_false, not_false_eq_true, decide_true, decide_false, List.length_map]
      clear hE0
      simp -implicitDefEqProofs (disch := omega) only [go_sem, ↓reduceIte, Nat.reduceEqDiff, Nat.reduceMul, Nat.reduceAdd, Nat.reduceDiv, Nat.reduceBEq, Nat.reduceLeDiff, Int.reduceToNat, Int.reduceNe, Int.reduceEq, Int.reduceLT, Int.reduceLE, Int.reduceBEq, Int.reduceBNe, ne_eq, not_true_eq_false, not_false_eq_true, decide_true, decide_false, List.length_map, e11, e12, h76, h60, h61, Try.results16]
      have hr : r = [] := by simpa using hxs.symm
      subst hr
      obtain ⟨hv, hat⟩ := can_at hcan
      have h1 := steps_walk h k (h.length + 1) c (-1)
      have h2 := steps_end hv (h.length + 1) c (-1) hat (by omega)
      rw [hst, List.append_nil] at h1 h2
      rw [pathR, if_pos hcan, h1, h2]
      rfl
end Go.Proofs.Ytmiahmpobpokmaa

/- The contracts of chapter 24: which are valid, by the reference. -/
import Derived.Test.YtmiahmpobpokmaaR2
set_option maxRecDepth 100000
set_option linter.unusedSimpArgs false
namespace Go.Proofs.Ytmiahmpobpokmaa
open Go.Vai Go Go.Proofs

theorem validR_ev (h k : List Int) (lag : Int) (hh : h.length ≤ 9223372036854775807) (hk : k.length ≤ 9223372036854775807) (hl : R64 lag) : Ev Try.prog 15 [SL h, SL k, I lag] (B (validF h k lag)) := by
  obtain ⟨hl1, hl2⟩ := hl
  refine ev_of Try.func15 rfl (by kernel_rfl) mo (Nat.le_of_ble_eq_true rfl) ?_
  simp -implicitDefEqProofs (disch := omega) only [go_sem, ↓reduceIte, Nat.reduceEqDiff, Nat.reduceMul, Nat.reduceAdd, Nat.reduceDiv, Nat.reduceBEq, Nat.reduceLeDiff, Int.reduceToNat, Int.reduceNe, Int.reduceEq, Int.reduceLT, Int.reduceLE, Int.reduceBEq, Int.reduceBNe, ne_eq, not_true_eq_false, not_false_eq_true, decide_true, decide_false, List.length_map, Try.ntmps15]
  refine callC_at (holders_ev h hh) ?_
  simp -implicitDefEqProofs (disch := omega) only [go_sem, ↓reduceIte, Nat.reduceEqDiff, Nat.reduceMul, Nat.reduceAdd, Nat.reduceDiv, Nat.reduceBEq, Nat.reduceLeDiff, Int.reduceToNat, Int.reduceNe, Int.reduceEq, Int.reduceLT, Int.reduceLE, Int.reduceBEq, Int.reduceBNe, ne_eq, not_true_eq_false, not_false_eq_true, decide_true, decide_false, List.length_map]
  repeat' (first | ((with_reducible refine branch_mk (fun hb => ?_) (fun hb => ?_)) <;> simp -implicitDefEqProofs (disch := omega) only [go_sem, ↓reduceIte, Nat.reduceEqDiff, Nat.reduceMul, Nat.reduceAdd, Nat.reduceDiv, Nat.reduceBEq, Nat.reduceLeDiff, Int.reduceToNat, Int.reduceNe, Int.reduceEq, Int.reduceLT, Int.reduceLE, Int.reduceBEq, Int.reduceBNe, ne_eq, not_true_eq_false, not_false_eq_true, decide_true, decide_false, List.length_map, Try.results15, hb]) | ((with_reducible refine callC_id ?_); refine callC_at (in_ev _ _ _) ?_; try simp -implicitDefEqProofs (disch := omega) only [go_sem, ↓reduceIte, Nat.reduceEqDiff, Nat.reduceMul, Nat.reduceAdd, Nat.reduceDiv, Nat.reduceBEq, Nat.reduceLeDiff, Int.reduceToNat, Int.reduceNe, Int.reduceEq, Int.reduceLT, Int.reduceLE, Int.reduceBEq, Int.reduceBNe, ne_eq, not_true_eq_false, not_false_eq_true, decide_true, decide_false, List.length_map, Try.results15]))
  · simp [validF, hb]
  · simp [validF]; intro _ e; omega
  · simp [validF, hb]
  · rename_i hb1 hb2
    have hk8 : k.length = 8 := by omega
    have hho : holdersF h = true := by simpa using hb1
    have hlg : inF lag 0 10 = true := by simpa using hb
    have hlen : 1 ≤ h.length ∧ h.length ≤ 30 := by
      simp only [holdersF, Bool.and_eq_true, inF_iff] at hho; omega
    have hlag := (inF_iff _ _ _).1 hlg
    clear hb hb1 hb2 hlg hl1 hl2 hk hh
    refine loopC_mk (fun n E σ => ∃ c : Nat, c + n = 8 ∧ E 0 = SL h ∧ E 1 = SL k ∧ E 2 = I lag ∧ E 7 = I (h.length - 1) ∧ E 8 = I c ∧
      ∀ i : Nat, i < c → gd k i = -1 ∨ inF (gd k i) (leastF h lag i (h.length - 1)) ((h.length : Int) - 1) = true) 8 ⟨0, by omega, ?_⟩ ?_
    · simp -implicitDefEqProofs (disch := omega) only [go_sem, ↓reduceIte, Nat.reduceEqDiff, Nat.reduceMul, Nat.reduceAdd, Nat.reduceDiv, Nat.reduceBEq, Nat.reduceLeDiff, Int.reduceToNat, Int.reduceNe, Int.reduceEq, Int.reduceLT, Int.reduceLE, Int.reduceBEq, Int.reduceBNe, ne_eq, not_true_eq_false, not_false_eq_true, decide_true, decide_false, List.length_map]
      simp
    · rintro n E σ ⟨c, hc, h0, h1, h2, h7, h8, hall⟩
      simp -implicitDefEqProofs (disch := omega) only [go_sem, ↓reduceIte, Nat.reduceEqDiff, Nat.reduceMul, Nat.reduceAdd, Nat.reduceDiv, Nat.reduceBEq, Nat.reduceLeDiff, Int.reduceToNat, Int.reduceNe, Int.reduceEq, Int.reduceLT, Int.reduceLE, Int.reduceBEq, Int.reduceBNe, ne_eq, not_true_eq_false, not_false_eq_true, decide_true, decide_false, List.length_map, h0, h1, h2, h7, h8]
      refine branch_mk (fun hd => ?_) (fun hd => ?_)
      · simp -implicitDefEqProofs (disch := omega) only [go_sem, ↓reduceIte, Nat.reduceEqDiff, Nat.reduceMul, Nat.reduceAdd, Nat.reduceDiv, Nat.reduceBEq, Nat.reduceLeDiff, Int.reduceToNat, Int.reduceNe, Int.reduceEq, Int.reduceLT, Int.reduceLE, Int.reduceBEq, Int.reduceBNe, ne_eq, not_true_eq_false, not_false_eq_true, decide_true, decide_false, List.length_map, h0, h1, h2, h7, h8]
        have no : ¬ (gd k c = -1 ∨ inF (gd k c) (leastF h lag c (h.length - 1)) ((h.length : Int) - 1) = true) → validF h k lag = false := fun hn => by
          cases hv : validF h k lag with
          | false => rfl
          | true =>
            simp only [validF, Bool.and_eq_true] at hv
            have := List.all_eq_true.1 hv.2 c (List.mem_range.2 (by omega))
            exact absurd (by simpa using this) hn
        have hle := leastF_le h lag c (gd k c) (h.length - 1)
        have hnn := leastF_nonneg h lag c (h.length - 1)
        rw [inF_iff] at no
        refine callC_at (in_ev _ _ _) ?_
        simp -implicitDefEqProofs (disch := omega) only [go_sem, ↓reduceIte, Nat.reduceEqDiff, Nat.reduceMul, Nat.reduceAdd, Nat.reduceDiv, Nat.reduceBEq, Nat.reduceLeDiff, Int.reduceToNat, Int.reduceNe, Int.reduceEq, Int.reduceLT, Int.reduceLE, Int.reduceBEq, Int.reduceBNe, ne_eq, not_true_eq_false, not_false_eq_true, decide_true, decide_false, List.length_map, h0, h1, h2, h7, h8]
        repeat' (first | ((with_reducible refine branch_mk (fun hb => ?_) (fun hb => ?_)) <;> simp -implicitDefEqProofs (disch := omega) only [go_sem, ↓reduceIte, Nat.reduceEqDiff, Nat.reduceMul, Nat.reduceAdd, Nat.reduceDiv, Nat.reduceBEq, Nat.reduceLeDiff, Int.reduceToNat, Int.reduceNe, Int.reduceEq, Int.reduceLT, Int.reduceLE, Int.reduceBEq, Int.reduceBNe, ne_eq, not_true_eq_false, not_false_eq_true, decide_true, decide_false, List.length_map, h0, h1, h2, h7, h8, Try.results15, hb]))
        · rw [inF_not] at hb
          rw [no (by omega)]
        · rw [no (by omega)]
        all_goals
          have hcl : gd k c = -1 ∨ (0 ≤ gd k c ∧ gd k c ≤ (h.length : Int) - 1 ∧ (h.length : Int) - 1 - lag ≤ gd k c) := by
            simp only [inF_not, inF_iff, Bool.not_eq_false] at *; omega
          refine loopC_mk (fun n E σ => ∃ v : Nat, 1 ≤ v ∧ v + n = h.length ∧ E 0 = SL h ∧ E 1 = SL k ∧ E 2 = I lag ∧ E 7 = I (h.length - 1) ∧ E 8 = I c ∧ E 9 = I v ∧
            ∀ i : Nat, 1 ≤ i → i < v → turnsF h c i → gd k c = -1 ∨ (i : Int) ≤ gd k c) (h.length - 1) ⟨1, by omega, by omega, ?_⟩ ?_
          · simp -implicitDefEqProofs (disch := omega) only [go_sem, ↓reduceIte, Nat.reduceEqDiff, Nat.reduceMul, Nat.reduceAdd, Nat.reduceDiv, Nat.reduceBEq, Nat.reduceLeDiff, Int.reduceToNat, Int.reduceNe, Int.reduceEq, Int.reduceLT, Int.reduceLE, Int.reduceBEq, Int.reduceBNe, ne_eq, not_true_eq_false, not_false_eq_true, decide_true, decide_false, List.length_map, h0, h1, h2, h7, h8]
            exact ⟨by simp, fun i h1 h2 => by omega⟩
          · clear h0 h1 h2 h7 h8 σ E
            rintro n' E σ ⟨v, hv1, hv, h0, h1, h2, h7, h8, h9, hin⟩
            simp -implicitDefEqProofs (disch := omega) only [go_sem, ↓reduceIte, Nat.reduceEqDiff, Nat.reduceMul, Nat.reduceAdd, Nat.reduceDiv, Nat.reduceBEq, Nat.reduceLeDiff, Int.reduceToNat, Int.reduceNe, Int.reduceEq, Int.reduceLT, Int.reduceLE, Int.reduceBEq, Int.reduceBNe, ne_eq, not_true_eq_false, not_false_eq_true, decide_true, decide_false, List.length_map, h0, h1, h2, h7, h8, h9]
            refine branch_mk (fun hd => ?_) (fun hd => ?_)
            · simp -implicitDefEqProofs (disch := omega) only [go_sem, ↓reduceIte, Nat.reduceEqDiff, Nat.reduceMul, Nat.reduceAdd, Nat.reduceDiv, Nat.reduceBEq, Nat.reduceLeDiff, Int.reduceToNat, Int.reduceNe, Int.reduceEq, Int.reduceLT, Int.reduceLE, Int.reduceBEq, Int.reduceBNe, ne_eq, not_true_eq_false, not_false_eq_true, decide_true, decide_false, List.length_map, h0, h1, h2, h7, h8, h9]
              have ev1 : ((v : Int) - 1).toNat = v - 1 := by omega
              repeat' (first | ((with_reducible refine branch_mk (fun hb => ?_) (fun hb => ?_)) <;> simp -implicitDefEqProofs (disch := omega) only [go_sem, ↓reduceIte, Nat.reduceEqDiff, Nat.reduceMul, Nat.reduceAdd, Nat.reduceDiv, Nat.reduceBEq, Nat.reduceLeDiff, Int.reduceToNat, Int.reduceNe, Int.reduceEq, Int.reduceLT, Int.reduceLE, Int.reduceBEq, Int.reduceBNe, ne_eq, not_true_eq_false, not_false_eq_true, decide_true, decide_false, List.length_map, h0, h1, h2, h7, h8, h9, ev1, Try.results15, hb]))
              all_goals (try simp only [ev1] at *)
              all_goals first
                | (rw [no (by
                    rintro (h3 | ⟨h3, h4⟩)
                    · omega
                    · have := (hle.1 h3).2.2 v hv1 (by omega) (by unfold turnsF; omega)
                      omega)])
                | (refine againQ_mk (n' - 1) (by omega) ⟨v + 1, by omega, by omega, ?_⟩
                   simp -implicitDefEqProofs (disch := omega) only [go_sem, ↓reduceIte, Nat.reduceEqDiff, Nat.reduceMul, Nat.reduceAdd, Nat.reduceDiv, Nat.reduceBEq, Nat.reduceLeDiff, Int.reduceToNat, Int.reduceNe, Int.reduceEq, Int.reduceLT, Int.reduceLE, Int.reduceBEq, Int.reduceBNe, ne_eq, not_true_eq_false, not_false_eq_true, decide_true, decide_false, List.length_map, h0, h1, h2, h7, h8, h9]
                   refine ⟨by simp, fun i h3 h4 h5 => ?_⟩
                   by_cases e : i = v
                   · subst e; unfold turnsF at h5; omega
                   · exact hin i h3 (by omega) h5)
            · simp -implicitDefEqProofs (disch := omega) only [go_sem, ↓reduceIte, Nat.reduceEqDiff, Nat.reduceMul, Nat.reduceAdd, Nat.reduceDiv, Nat.reduceBEq, Nat.reduceLeDiff, Int.reduceToNat, Int.reduceNe, Int.reduceEq, Int.reduceLT, Int.reduceLE, Int.reduceBEq, Int.reduceBNe, ne_eq, not_true_eq_false, not_false_eq_true, decide_true, decide_false, List.length_map, h0, h1, h2, h7, h8, h9]
              refine againQ_mk (n - 1) (by omega) ⟨c + 1, by omega, ?_⟩
              simp -implicitDefEqProofs (disch := omega) only [go_sem, ↓reduceIte, Nat.reduceEqDiff, Nat.reduceMul, Nat.reduceAdd, Nat.reduceDiv, Nat.reduceBEq, Nat.reduceLeDiff, Int.reduceToNat, Int.reduceNe, Int.reduceEq, Int.reduceLT, Int.reduceLE, Int.reduceBEq, Int.reduceBNe, ne_eq, not_true_eq_false, not_false_eq_true, decide_true, decide_false, List.length_map, h0, h1, h2, h7, h8, h9]
              refine ⟨by simp, fun i hi => ?_⟩
              by_cases e : i = c
              · subst e
                rcases hcl with hcl | ⟨h3, h4, h5⟩
                · exact .inl hcl
                · refine .inr ((inF_iff _ _ _).2 ⟨hle.2 ⟨h3, h5, fun i h6 h7 h8 => ?_⟩, h4⟩)
                  have := hin i h6 (by omega) h8; omega
              · exact hall i (by omega)
      · simp -implicitDefEqProofs (disch := omega) only [go_sem, ↓reduceIte, Nat.reduceEqDiff, Nat.reduceMul, Nat.reduceAdd, Nat.reduceDiv, Nat.reduceBEq, Nat.reduceLeDiff, Int.reduceToNat, Int.reduceNe, Int.reduceEq, Int.reduceLT, Int.reduceLE, Int.reduceBEq, Int.reduceBNe, ne_eq, not_true_eq_false, not_false_eq_true, decide_true, decide_false, List.length_map, Try.results15]
        have : validF h k lag = true := by
          simp only [validF, Bool.and_eq_true]
          refine ⟨⟨⟨hho, by simp [hk8]⟩, (inF_iff _ _ _).2 hlag⟩, List.all_eq_true.2 fun i hi => ?_⟩
          have := List.mem_range.1 hi
          simpa using hall i (by omega)
        rw [this]

end Go.Proofs.Ytmiahmpobpokmaa

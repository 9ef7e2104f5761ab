/- The contracts of chapter 24: the hops of a call, handed to yield. -/
import Derived.Test.YtmiahmpobpokmaaR8
import Derived.Test.YtmiahmpobpokmaaVz
set_option maxRecDepth 100000
set_option linter.unusedSimpArgs false
namespace Go.Proofs.Ytmiahmpobpokmaa
open Go.Vai Go Go.Proofs

/-- The hops with their ends. -/
def stepsF (h k : List Int) : Nat → Int → Int → List (Int × Int × Int)
  | 0, _, _ => []
  | n + 1, c, u =>
    if (decideF h k c u).2.2 = 0 then (c, (decideF h k c u).1, 0) :: stepsF h k n (decideF h k c u).2.1 (decideF h k c u).1
    else [(c, (decideF h k c u).1, (decideF h k c u).2.2)]
abbrev YP (x : Int × Int × Int) : List AV := [HP (x.1, x.2.1), I x.2.2]

@[go_sem] theorem namesL_steps (p : Nat → Bool) (l : List (Int × Int × Int)) : AV.namesL p ((l.map YP).map .tup) = false := by
  rw [List.map_map]; exact namesL_map p l _ fun _ => rfl
theorem hops_sok (h k : List Int) (lag c : Int) (a b d : Nat) (σ : Store) (hcan : canF h k lag c = true) (ha : σ a = some ⟨22, 1, [SL h]⟩) (hb : σ b = some ⟨22, 1, [SL k]⟩) (hd : σ d = some ⟨3, 1, [I c]⟩)
    (hab : a ≠ b) (had : a ≠ d) (hbd : b ≠ d) (hA : a / 16 < 6291456 ∨ 6391456 ≤ a / 16) (hB : b / 16 < 6291456 ∨ 6391456 ≤ b / 16) (hD : d / 16 < 6291456 ∨ 6391456 ≤ d / 16) :
    SOK Try.prog 47 [.ptr a 1 0 0, .ptr b 1 0 0, .ptr d 1 0 0] σ ((stepsF h k (h.length + 1) c (-1)).map YP) := by
  refine sok_of Try.func47 rfl (by kernel_rfl) mo (Nat.le_of_ble_eq_true rfl) ?_ rfl fun l => ?_
  · exact namesL_steps allB _
  · simp -implicitDefEqProofs (disch := omega) only [go_sem, ↓reduceIte, Nat.reduceEqDiff, Nat.reduceMul, Nat.reduceAdd, Nat.reduceDiv, Nat.reduceBEq, Nat.reduceLeDiff, Int.reduceToNat, Int.reduceNe, Int.reduceEq, Int.reduceLT, Int.reduceLE, Int.reduceBEq, Int.reduceBNe, ne_eq, not_true_eq_false, not_false_eq_true, decide_true, decide_false, List.length_map, Try.ntmps47]
    obtain ⟨hv, hat⟩ := can_at hcan
    have eA : (a / 16 = 6291470) = False := by simp; omega
    have eB : (b / 16 = 6291470) = False := by simp; omega
    have eD : (d / 16 = 6291470) = False := by simp; omega
    refine loopC_mk (fun n E σ => ∃ (c u : Int), AtF h k c u ∧ (h.length : Int) - u ≤ n ∧ E 0 = .yld l ∧ E 1 = .ptr a 1 0 0 ∧ E 2 = .ptr b 1 0 0 ∧ E 3 = .ptr d 1 0 0 ∧ E 5 = I u ∧ E 31 = .tup (((stepsF h k n c u).map YP).map .tup) ∧
      σ a = some ⟨22, 1, [SL h]⟩ ∧ σ b = some ⟨22, 1, [SL k]⟩ ∧ σ d = some ⟨3, 1, [I c]⟩) (h.length + 1) ⟨c, -1, hat, by omega, ?_⟩ ?_
    · simp -implicitDefEqProofs (disch := omega) only [go_sem, ↓reduceIte, Nat.reduceEqDiff, Nat.reduceMul, Nat.reduceAdd, Nat.reduceDiv, Nat.reduceBEq, Nat.reduceLeDiff, Int.reduceToNat, Int.reduceNe, Int.reduceEq, Int.reduceLT, Int.reduceLE, Int.reduceBEq, Int.reduceBNe, ne_eq, not_true_eq_false, not_false_eq_true, decide_true, decide_false, List.length_map, ha, hb, hd]
    · clear hat ha hb hd hcan c σ
      rintro n E σ ⟨c, u, hat, hn, h0, h1, h2, h3, h5, h31, ha, hb, hd⟩
      obtain ⟨d1, d2, d3⟩ := at_decide hv hat
      obtain ⟨s1, s2, s3, s4, s5⟩ := at_step hv hat
      obtain ⟨m, rfl⟩ : ∃ m, n = m + 1 := ⟨n - 1, by have := hat.2.2.2.2.1; omega⟩
      by_cases he : (decideF h k c u).2.2 = 0
      · have hst : stepsF h k (m + 1) c u = (c, (decideF h k c u).1, 0) :: stepsF h k m (decideF h k c u).2.1 (decideF h k c u).1 := by rw [stepsF, if_pos he]
        rw [hst] at h31
        simp -implicitDefEqProofs (disch := omega) only [go_sem, ↓reduceIte, Nat.reduceEqDiff, Nat.reduceMul, Nat.reduceAdd, Nat.reduceDiv, Nat.reduceBEq, Nat.reduceLeDiff, Int.reduceToNat, Int.reduceNe, Int.reduceEq, Int.reduceLT, Int.reduceLE, Int.reduceBEq, Int.reduceBNe, ne_eq, not_true_eq_false, not_false_eq_true, decide_true, decide_false, List.length_map, h0, h1, h2, h3, h5, ha, hb, hd]
        refine callC_at (decide_ev h k c u d1 d2 d3.2) ?_
        simp -implicitDefEqProofs (disch := omega) only [go_sem, ↓reduceIte, Nat.reduceEqDiff, Nat.reduceMul, Nat.reduceAdd, Nat.reduceDiv, Nat.reduceBEq, Nat.reduceLeDiff, Int.reduceToNat, Int.reduceNe, Int.reduceEq, Int.reduceLT, Int.reduceLE, Int.reduceBEq, Int.reduceBNe, ne_eq, not_true_eq_false, not_false_eq_true, decide_true, decide_false, List.length_map, T3, h0, h1, h2, h3, h5, h31, ha, hb, hd, eA, eB, eD, he]
        rcases s5 with ⟨_, s6, s7, s8⟩ | ⟨_, s6⟩
        · refine ⟨againQ_mk m (by omega) ⟨_, _, s8, by omega, ?_⟩, ?_⟩
          · simp -implicitDefEqProofs (disch := omega) only [go_sem, ↓reduceIte, Nat.reduceEqDiff, Nat.reduceMul, Nat.reduceAdd, Nat.reduceDiv, Nat.reduceBEq, Nat.reduceLeDiff, Int.reduceToNat, Int.reduceNe, Int.reduceEq, Int.reduceLT, Int.reduceLE, Int.reduceBEq, Int.reduceBNe, ne_eq, not_true_eq_false, not_false_eq_true, decide_true, decide_false, List.length_map, T3, h0, h1, h2, h3, h5, h31, ha, hb, hd, eA, eB, eD, he]
            exact ⟨by rw [if_neg had], by rw [if_neg hbd]⟩
          · exact .inr trivial
        · omega
      · have hst : stepsF h k (m + 1) c u = [(c, (decideF h k c u).1, (decideF h k c u).2.2)] := by rw [stepsF, if_neg he]
        rw [hst] at h31
        simp -implicitDefEqProofs (disch := omega) only [go_sem, ↓reduceIte, Nat.reduceEqDiff, Nat.reduceMul, Nat.reduceAdd, Nat.reduceDiv, Nat.reduceBEq, Nat.reduceLeDiff, Int.reduceToNat, Int.reduceNe, Int.reduceEq, Int.reduceLT, Int.reduceLE, Int.reduceBEq, Int.reduceBNe, ne_eq, not_true_eq_false, not_false_eq_true, decide_true, decide_false, List.length_map, h0, h1, h2, h3, h5, ha, hb, hd]
        refine callC_at (decide_ev h k c u d1 d2 d3.2) ?_
        simp -implicitDefEqProofs (disch := omega) only [go_sem, ↓reduceIte, Nat.reduceEqDiff, Nat.reduceMul, Nat.reduceAdd, Nat.reduceDiv, Nat.reduceBEq, Nat.reduceLeDiff, Int.reduceToNat, Int.reduceNe, Int.reduceEq, Int.reduceLT, Int.reduceLE, Int.reduceBEq, Int.reduceBNe, ne_eq, not_true_eq_false, not_false_eq_true, decide_true, decide_false, List.length_map, T3, h0, h1, h2, h3, h5, h31, ha, hb, hd, eA, eB, eD, he]
        exact ⟨.inl trivial, .inr trivial⟩
end Go.Proofs.Ytmiahmpobpokmaa

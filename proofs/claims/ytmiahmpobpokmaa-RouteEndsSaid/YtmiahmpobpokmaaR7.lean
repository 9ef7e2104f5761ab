/- The contracts of chapter 24: paths, by the reference. -/
import Derived.Test.YtmiahmpobpokmaaR6
set_option maxRecDepth 100000
set_option linter.unusedSimpArgs false
namespace Go.Proofs.Ytmiahmpobpokmaa
open Go.Vai Go Go.Proofs

@[go_sem] theorem append_hp (l : List (Int × Int)) (a b : Int) : l.map HP ++ [.agg [.v (.int .i64 a), .v (.int .i64 b)]] = (l ++ [(a, b)]).map HP := by simp
@[go_sem] theorem flatL_hps (l : List (Int × Int)) : AV.flatL (l.map HP) = true := flatL_map l HP fun _ => rfl
@[go_sem] theorem namesL_hps (p : Nat → Bool) (l : List (Int × Int)) : AV.namesL p (l.map HP) = false := namesL_map p l HP fun _ => rfl
@[go_sem] theorem allOK_hps (l : List (Int × Int)) : allOK 2 (l.map HP) = true := allOK_map 2 l HP fun _ => ⟨rfl, rfl⟩

theorem at_decide {h k : List Int} {lag c u : Int} (hv : validF h k lag = true) (ha : AtF h k c u) :
    (0 ≤ c ∧ c < k.length) ∧ (0 ≤ max (gd k c.toNat) u ∧ max (gd k c.toNat) u < h.length) ∧ (-1 ≤ gd h (max (gd k c.toNat) u).toNat ∧ gd h (max (gd k c.toNat) u).toNat < k.length) := by
  obtain ⟨h1, h2, h3, h4, h5, h6⟩ := ha
  obtain ⟨g1, g2, g3, g4, g5, g6⟩ := valid_holders hv
  have hk := valid_known' hv c.toNat (by omega)
  have hw := holders_at g1 (max (gd k c.toNat) u).toNat (by omega)
  omega

theorem pathR_ev (h k : List Int) (lag c : Int) (hh : h.length ≤ 9223372036854775807) (hk : k.length ≤ 9223372036854775807) (hl : R64 lag) : Ev Try.prog 17 [SL h, SL k, I lag, I c] (pathR h k lag c) := by
  refine ev_of Try.func17 rfl (by kernel_rfl) mo (Nat.le_of_ble_eq_true rfl) ?_
  simp -implicitDefEqProofs (disch := omega) only [go_sem, ↓reduceIte, Nat.reduceEqDiff, Nat.reduceMul, Nat.reduceAdd, Nat.reduceDiv, Nat.reduceBEq, Nat.reduceLeDiff, Int.reduceToNat, Int.reduceNe, Int.reduceEq, Int.reduceLT, Int.reduceLE, Int.reduceBEq, Int.reduceBNe, ne_eq, not_true_eq_false, not_false_eq_true, decide_true, decide_false, List.length_map, Try.ntmps17]
  refine callC_at (validR_ev h k lag hh hk hl) ?_
  simp -implicitDefEqProofs (disch := omega) only [go_sem, ↓reduceIte, Nat.reduceEqDiff, Nat.reduceMul, Nat.reduceAdd, Nat.reduceDiv, Nat.reduceBEq, Nat.reduceLeDiff, Int.reduceToNat, Int.reduceNe, Int.reduceEq, Int.reduceLT, Int.reduceLE, Int.reduceBEq, Int.reduceBNe, ne_eq, not_true_eq_false, not_false_eq_true, decide_true, decide_false, List.length_map]
  refine branch_mk (fun hb => ?_) (fun hb => ?_)
  · simp -implicitDefEqProofs (disch := omega) only [go_sem, ↓reduceIte, Nat.reduceEqDiff, Nat.reduceMul, Nat.reduceAdd, Nat.reduceDiv, Nat.reduceBEq, Nat.reduceLeDiff, Int.reduceToNat, Int.reduceNe, Int.reduceEq, Int.reduceLT, Int.reduceLE, Int.reduceBEq, Int.reduceBNe, ne_eq, not_true_eq_false, not_false_eq_true, decide_true, decide_false, List.length_map, Try.results17]
    simp [pathR, canF, hb]
  · simp -implicitDefEqProofs (disch := omega) only [go_sem, ↓reduceIte, Nat.reduceEqDiff, Nat.reduceMul, Nat.reduceAdd, Nat.reduceDiv, Nat.reduceBEq, Nat.reduceLeDiff, Int.reduceToNat, Int.reduceNe, Int.reduceEq, Int.reduceLT, Int.reduceLE, Int.reduceBEq, Int.reduceBNe, ne_eq, not_true_eq_false, not_false_eq_true, decide_true, decide_false, List.length_map]
    have hv : validF h k lag = true := by simpa using hb
    obtain ⟨g1, g2, g3, g4, g5, g6⟩ := valid_holders hv
    refine callC_at (up_ev k c g2) ?_
    simp -implicitDefEqProofs (disch := omega) only [go_sem, ↓reduceIte, Nat.reduceEqDiff, Nat.reduceMul, Nat.reduceAdd, Nat.reduceDiv, Nat.reduceBEq, Nat.reduceLeDiff, Int.reduceToNat, Int.reduceNe, Int.reduceEq, Int.reduceLT, Int.reduceLE, Int.reduceBEq, Int.reduceBNe, ne_eq, not_true_eq_false, not_false_eq_true, decide_true, decide_false, List.length_map]
    refine branch_mk (fun hc => ?_) (fun hc => ?_)
    · simp -implicitDefEqProofs (disch := omega) only [go_sem, ↓reduceIte, Nat.reduceEqDiff, Nat.reduceMul, Nat.reduceAdd, Nat.reduceDiv, Nat.reduceBEq, Nat.reduceLeDiff, Int.reduceToNat, Int.reduceNe, Int.reduceEq, Int.reduceLT, Int.reduceLE, Int.reduceBEq, Int.reduceBNe, ne_eq, not_true_eq_false, not_false_eq_true, decide_true, decide_false, List.length_map, Try.results17]
      have : ¬ canF h k lag c = true := by
        intro h1
        simp only [canF, hv, Bool.true_and] at h1
        rw [h1] at hc; cases hc
      rw [pathR, if_neg this]
    · simp -implicitDefEqProofs (disch := omega) only [go_sem, ↓reduceIte, Nat.reduceEqDiff, Nat.reduceMul, Nat.reduceAdd, Nat.reduceDiv, Nat.reduceBEq, Nat.reduceLeDiff, Int.reduceToNat, Int.reduceNe, Int.reduceEq, Int.reduceLT, Int.reduceLE, Int.reduceBEq, Int.reduceBNe, ne_eq, not_true_eq_false, not_false_eq_true, decide_true, decide_false, List.length_map]
      have hcan : canF h k lag c = true := by
        simp only [canF, hv, Bool.true_and]
        simpa [and_assoc] using hc
      have hat : AtF h k c (-1) := by
        simp only [canF, Bool.and_eq_true, decide_eq_true_eq] at hcan
        exact ⟨by omega, by omega, by omega, by omega, by omega, .inl rfl⟩
      rw [pathR, if_pos hcan]
      clear hc hb hcan
      generalize hr : pathF h k c = res
      refine loopC_mk (fun n E σ => ∃ (c u : Int) (l : List (Int × Int)), AtF h k c u ∧ (h.length : Int) - u ≤ n ∧ l.length + n = h.length + 1 ∧ res = (l ++ (walkF h k n c u).1, (walkF h k n c u).2) ∧
        E 0 = SL h ∧ E 1 = SL k ∧ E 3 = I c ∧ E 12 = I u ∧ E 11 = .own 37748912 2 0 l.length ∧ σ 37748912 = some ⟨40, 2, l.map HP⟩) (h.length + 1) ⟨c, -1, [], hat, by omega, by simp, by rw [← hr]; rfl, ?_⟩ ?_
      · simp -implicitDefEqProofs (disch := omega) only [go_sem, ↓reduceIte, Nat.reduceEqDiff, Nat.reduceMul, Nat.reduceAdd, Nat.reduceDiv, Nat.reduceBEq, Nat.reduceLeDiff, Int.reduceToNat, Int.reduceNe, Int.reduceEq, Int.reduceLT, Int.reduceLE, Int.reduceBEq, Int.reduceBNe, ne_eq, not_true_eq_false, not_false_eq_true, decide_true, decide_false, List.length_map]
      · clear hat hr c
        rintro n E σ ⟨c, u, l, hat, hn, hln, hres, h0, h1, h3, h12, h11, hs⟩
        simp -implicitDefEqProofs (disch := omega) only [go_sem, ↓reduceIte, Nat.reduceEqDiff, Nat.reduceMul, Nat.reduceAdd, Nat.reduceDiv, Nat.reduceBEq, Nat.reduceLeDiff, Int.reduceToNat, Int.reduceNe, Int.reduceEq, Int.reduceLT, Int.reduceLE, Int.reduceBEq, Int.reduceBNe, ne_eq, not_true_eq_false, not_false_eq_true, decide_true, decide_false, List.length_map, h0, h1, h3, h12, h11]
        obtain ⟨d1, d2, d3⟩ := at_decide hv hat
        obtain ⟨s1, s2, s3, s4, s5⟩ := at_step hv hat
        obtain ⟨m, rfl⟩ : ∃ m, n = m + 1 := ⟨n - 1, by have := hat.2.2.2.2.1; omega⟩
        refine callC_at (decideR_ev h k c u d1 d2 d3) ?_
        simp -implicitDefEqProofs (disch := omega) only [go_sem, ↓reduceIte, Nat.reduceEqDiff, Nat.reduceMul, Nat.reduceAdd, Nat.reduceDiv, Nat.reduceBEq, Nat.reduceLeDiff, Int.reduceToNat, Int.reduceNe, Int.reduceEq, Int.reduceLT, Int.reduceLE, Int.reduceBEq, Int.reduceBNe, ne_eq, not_true_eq_false, not_false_eq_true, decide_true, decide_false, List.length_map, T3, h0, h1, h3, h12, h11, hs]
        refine branch_mk (fun he => ?_) (fun he => ?_)
        · simp -implicitDefEqProofs (disch := omega) only [go_sem, ↓reduceIte, Nat.reduceEqDiff, Nat.reduceMul, Nat.reduceAdd, Nat.reduceDiv, Nat.reduceBEq, Nat.reduceLeDiff, Int.reduceToNat, Int.reduceNe, Int.reduceEq, Int.reduceLT, Int.reduceLE, Int.reduceBEq, Int.reduceBNe, ne_eq, not_true_eq_false, not_false_eq_true, decide_true, decide_false, List.length_map, T3, h0, h1, h3, h12, h11, hs, Try.results17]
          have e : walkF h k (m + 1) c u = ([(c, (decideF h k c u).1)], (decideF h k c u).2.2) := by
            rw [walkF, if_neg he]
          rw [hres, e]
        · simp -implicitDefEqProofs (disch := omega) only [go_sem, ↓reduceIte, Nat.reduceEqDiff, Nat.reduceMul, Nat.reduceAdd, Nat.reduceDiv, Nat.reduceBEq, Nat.reduceLeDiff, Int.reduceToNat, Int.reduceNe, Int.reduceEq, Int.reduceLT, Int.reduceLE, Int.reduceBEq, Int.reduceBNe, ne_eq, not_true_eq_false, not_false_eq_true, decide_true, decide_false, List.length_map, T3, h0, h1, h3, h12, h11, hs]
          have he0 : (decideF h k c u).2.2 = 0 := by omega
          have e : walkF h k (m + 1) c u = ((c, (decideF h k c u).1) :: (walkF h k m (decideF h k c u).2.1 (decideF h k c u).1).1, (walkF h k m (decideF h k c u).2.1 (decideF h k c u).1).2) := by
            rw [walkF, if_pos he0]
          rcases s5 with ⟨_, s6, s7, s8⟩ | ⟨_, s6⟩
          · refine againQ_mk m (by omega) ⟨_, _, l ++ [(c, (decideF h k c u).1)], s8, by omega, by simp; omega, by rw [hres, e]; simp, ?_⟩
            simp -implicitDefEqProofs (disch := omega) only [go_sem, ↓reduceIte, Nat.reduceEqDiff, Nat.reduceMul, Nat.reduceAdd, Nat.reduceDiv, Nat.reduceBEq, Nat.reduceLeDiff, Int.reduceToNat, Int.reduceNe, Int.reduceEq, Int.reduceLT, Int.reduceLE, Int.reduceBEq, Int.reduceBNe, ne_eq, not_true_eq_false, not_false_eq_true, decide_true, decide_false, List.length_map, T3, h0, h1, h3, h12, h11, hs]
          · omega

theorem learnR_ev (h k : List Int) (lag c : Int) (hh : h.length ≤ 9223372036854775807) (hk : k.length ≤ 9223372036854775807) (hl : R64 lag) : Ev Try.prog 19 [SL h, SL k, I lag, I c] (learnR h k lag c) := by
  refine ev_of Try.func19 rfl (by kernel_rfl) mo (Nat.le_of_ble_eq_true rfl) ?_
  simp -implicitDefEqProofs (disch := omega) only [go_sem, ↓reduceIte, Nat.reduceEqDiff, Nat.reduceMul, Nat.reduceAdd, Nat.reduceDiv, Nat.reduceBEq, Nat.reduceLeDiff, Int.reduceToNat, Int.reduceNe, Int.reduceEq, Int.reduceLT, Int.reduceLE, Int.reduceBEq, Int.reduceBNe, ne_eq, not_true_eq_false, not_false_eq_true, decide_true, decide_false, List.length_map, Try.ntmps19]
  have hp := pathR_ev h k lag c hh hk hl
  by_cases hcan : canF h k lag c = true
  · rw [pathR, if_pos hcan] at hp
    rw [learnR, if_pos hcan]
    have hin := path_in hcan
    obtain ⟨g1, g2, g3, g4, g5, g6⟩ := valid_holders (can_at hcan).1
    obtain ⟨p1, p2⟩ := path_length (h := h) (k := k) (c := c)
    unfold learnF
    clear hcan
    generalize (pathF h k c).2 = e at hp
    generalize (pathF h k c).1 = l at *
    refine callC_at hp ?_ (h1 := .inl rfl)
    simp -implicitDefEqProofs (disch := omega) only [go_sem, ↓reduceIte, Nat.reduceEqDiff, Nat.reduceMul, Nat.reduceAdd, Nat.reduceDiv, Nat.reduceBEq, Nat.reduceLeDiff, Int.reduceToNat, Int.reduceNe, Int.reduceEq, Int.reduceLT, Int.reduceLE, Int.reduceBEq, Int.reduceBNe, ne_eq, not_true_eq_false, not_false_eq_true, decide_true, decide_false, List.length_map]
    refine loopC_mk (fun n E σ => ∃ i : Nat, i + n = l.length ∧ E 10 = .own 41943360 2 0 l.length ∧ E 13 = .own 41943472 1 0 8 ∧ E 14 = I i ∧ σ 41943360 = some ⟨40, 2, l.map HP⟩ ∧ σ 41943472 = some ⟨3, 1, (learnN (gd l (l.length - 1)).2 l k i).map I⟩) l.length ⟨0, by omega, ?_⟩ ?_
    · simp -implicitDefEqProofs (disch := omega) only [go_sem, ↓reduceIte, Nat.reduceEqDiff, Nat.reduceMul, Nat.reduceAdd, Nat.reduceDiv, Nat.reduceBEq, Nat.reduceLeDiff, Int.reduceToNat, Int.reduceNe, Int.reduceEq, Int.reduceLT, Int.reduceLE, Int.reduceBEq, Int.reduceBNe, ne_eq, not_true_eq_false, not_false_eq_true, decide_true, decide_false, List.length_map]
      exact ⟨by rw [g2], by simp, rfl⟩
    · rintro n E σ ⟨i, hi, h10, h13, h14, hs1, hs2⟩
      simp -implicitDefEqProofs (disch := omega) only [go_sem, ↓reduceIte, Nat.reduceEqDiff, Nat.reduceMul, Nat.reduceAdd, Nat.reduceDiv, Nat.reduceBEq, Nat.reduceLeDiff, Int.reduceToNat, Int.reduceNe, Int.reduceEq, Int.reduceLT, Int.reduceLE, Int.reduceBEq, Int.reduceBNe, ne_eq, not_true_eq_false, not_false_eq_true, decide_true, decide_false, List.length_map, h10, h13, h14, hs1, hs2]
      refine branch_mk (fun hc => ?_) (fun hc => ?_)
      · have hgi := hin _ (gd_mem l i (by omega))
        have hlen := learnN_length (gd l (l.length - 1)).2 l k i
        have e1 : ((l.length : Int) - 1).toNat = l.length - 1 := by omega
        simp -implicitDefEqProofs (disch := omega) only [go_sem, ↓reduceIte, Nat.reduceEqDiff, Nat.reduceMul, Nat.reduceAdd, Nat.reduceDiv, Nat.reduceBEq, Nat.reduceLeDiff, Int.reduceToNat, Int.reduceNe, Int.reduceEq, Int.reduceLT, Int.reduceLE, Int.reduceBEq, Int.reduceBNe, ne_eq, not_true_eq_false, not_false_eq_true, decide_true, decide_false, List.length_map, h10, h13, h14, hs1, hs2, e1]
        refine againQ_mk (n - 1) (by omega) ⟨i + 1, by omega, ?_⟩
        simp -implicitDefEqProofs (disch := omega) only [go_sem, ↓reduceIte, Nat.reduceEqDiff, Nat.reduceMul, Nat.reduceAdd, Nat.reduceDiv, Nat.reduceBEq, Nat.reduceLeDiff, Int.reduceToNat, Int.reduceNe, Int.reduceEq, Int.reduceLT, Int.reduceLE, Int.reduceBEq, Int.reduceBNe, ne_eq, not_true_eq_false, not_false_eq_true, decide_true, decide_false, List.length_map, h10, h13, h14, hs1, hs2]
        exact ⟨by simp, rfl⟩
      · have hlen := learnN_length (gd l (l.length - 1)).2 l k i
        simp -implicitDefEqProofs (disch := omega) only [go_sem, ↓reduceIte, Nat.reduceEqDiff, Nat.reduceMul, Nat.reduceAdd, Nat.reduceDiv, Nat.reduceBEq, Nat.reduceLeDiff, Int.reduceToNat, Int.reduceNe, Int.reduceEq, Int.reduceLT, Int.reduceLE, Int.reduceBEq, Int.reduceBNe, ne_eq, not_true_eq_false, not_false_eq_true, decide_true, decide_false, List.length_map, h10, h13, h14, hs1, hs2, Try.results19]
        rw [show i = l.length from by omega]
  · rw [pathR, if_neg hcan] at hp
    rw [learnR, if_neg hcan]
    refine callC_at hp ?_
    simp -implicitDefEqProofs (disch := omega) only [go_sem, ↓reduceIte, Nat.reduceEqDiff, Nat.reduceMul, Nat.reduceAdd, Nat.reduceDiv, Nat.reduceBEq, Nat.reduceLeDiff, Int.reduceToNat, Int.reduceNe, Int.reduceEq, Int.reduceLT, Int.reduceLE, Int.reduceBEq, Int.reduceBNe, ne_eq, not_true_eq_false, not_false_eq_true, decide_true, decide_false, List.length_map, Try.results19]
end Go.Proofs.Ytmiahmpobpokmaa

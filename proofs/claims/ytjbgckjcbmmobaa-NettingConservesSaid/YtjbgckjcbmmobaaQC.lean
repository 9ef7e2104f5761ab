/- Chapter 39, NettingConserves: for every input the law returns true, and its argument reads afterwards as it read before. -/
import Derived.Test.YtjbgckjcbmmobaaKG
set_option linter.unusedVariables false
set_option linter.unusedSimpArgs false
/- The law of chapter 39 that nothing is gained or lost. -/
set_option maxRecDepth 100000
set_option linter.unusedSimpArgs false
namespace Go.Proofs.Ytjbgckjcbmmobaa
open Go.Vai Go Go.Proofs

theorem conserves_ev (x : List Deb) (hl : x.length ≤ 9223372036854775807) (hx : ∀ y ∈ x, R64 y.1 ∧ R64 y.2.1 ∧ R64 y.2.2) : Ev Try.prog 4 [DL x] (B true) := by
  refine ev_of Try.func4 rfl (by kernel_rfl) mo (Nat.le_of_ble_eq_true rfl) ?_
  simp -implicitDefEqProofs (disch := omega) only [go_sem, ↓reduceIte, Nat.reduceEqDiff, Nat.reduceMul, Nat.reduceAdd, Nat.reduceDiv, Nat.reduceBEq, Nat.reduceLeDiff, Int.reduceToNat, Int.reduceNe, Int.reduceEq, Int.reduceLT, Int.reduceLE, Int.reduceBEq, Int.reduceBNe, ne_eq, not_true_eq_false, not_false_eq_true, decide_true, decide_false, List.length_map, Try.ntmps4]
  refine callC_at sane_ev ?_
  simp -implicitDefEqProofs (disch := omega) only [go_sem, ↓reduceIte, Nat.reduceEqDiff, Nat.reduceMul, Nat.reduceAdd, Nat.reduceDiv, Nat.reduceBEq, Nat.reduceLeDiff, Int.reduceToNat, Int.reduceNe, Int.reduceEq, Int.reduceLT, Int.reduceLE, Int.reduceBEq, Int.reduceBNe, ne_eq, not_true_eq_false, not_false_eq_true, decide_true, decide_false, List.length_map]
  refine callC_at (made_ev x hl hx) ?_
  have hd := madeF_debts x
  generalize madeF x = l at *
  have h1 := bal_valid hd
  have h2 := pairs_valid hd
  have h3 := round_valid hd
  have hz := bal_zero hd
  have hn := bookF_netted l hd
  obtain ⟨b1, b2⟩ := bal_pairs hd
  have n1 := net_ev _ 1000000000000 (by omega) (by omega) (lstF_debts hn)
  have n2 := net_ev _ 1000000000000 (by omega) (by omega) (lstF_debts (rndF_netted hn).2)
  rw [b1] at n1
  rw [b2] at n2
  have h8 : (balF l).length = 8 := balN_length l _
  have hg := bal_good hd (by omega) (by omega)
  have hsw : sumW (balF l) 8 = 0 := by
    have := sumW_eq (balF l) (by omega) 8 (by omega) fun j hj => ((goodF_iff _).1 hg).1 j (by omega)
    rw [this, List.take_of_length_le (by omega), hz]
  have i1 := ints_ev (balF l) (balF l) (by omega) (by omega)
  rw [decide_eq_true rfl] at i1
  generalize balF l = b at *
  generalize lstF (bookF l) = p at *
  generalize lstF (rndF (bookF l)) = r at *
  simp -implicitDefEqProofs (disch := omega) only [go_sem, ↓reduceIte, Nat.reduceEqDiff, Nat.reduceMul, Nat.reduceAdd, Nat.reduceDiv, Nat.reduceBEq, Nat.reduceLeDiff, Int.reduceToNat, Int.reduceNe, Int.reduceEq, Int.reduceLT, Int.reduceLE, Int.reduceBEq, Int.reduceBNe, ne_eq, not_true_eq_false, not_false_eq_true, decide_true, decide_false, List.length_map]
  refine callC_at h1 ?_
  simp -implicitDefEqProofs (disch := omega) only [go_sem, ↓reduceIte, Nat.reduceEqDiff, Nat.reduceMul, Nat.reduceAdd, Nat.reduceDiv, Nat.reduceBEq, Nat.reduceLeDiff, Int.reduceToNat, Int.reduceNe, Int.reduceEq, Int.reduceLT, Int.reduceLE, Int.reduceBEq, Int.reduceBNe, ne_eq, not_true_eq_false, not_false_eq_true, decide_true, decide_false, List.length_map]
  refine callC_at h2 ?_
  simp -implicitDefEqProofs (disch := omega) only [go_sem, ↓reduceIte, Nat.reduceEqDiff, Nat.reduceMul, Nat.reduceAdd, Nat.reduceDiv, Nat.reduceBEq, Nat.reduceLeDiff, Int.reduceToNat, Int.reduceNe, Int.reduceEq, Int.reduceLT, Int.reduceLE, Int.reduceBEq, Int.reduceBNe, ne_eq, not_true_eq_false, not_false_eq_true, decide_true, decide_false, List.length_map]
  refine callC_at h3 ?_
  simp -implicitDefEqProofs (disch := omega) only [go_sem, ↓reduceIte, Nat.reduceEqDiff, Nat.reduceMul, Nat.reduceAdd, Nat.reduceDiv, Nat.reduceBEq, Nat.reduceLeDiff, Int.reduceToNat, Int.reduceNe, Int.reduceEq, Int.reduceLT, Int.reduceLE, Int.reduceBEq, Int.reduceBNe, ne_eq, not_true_eq_false, not_false_eq_true, decide_true, decide_false, List.length_map, h8]
  refine branch_r (by simp) ?_
  simp -implicitDefEqProofs (disch := omega) only [go_sem, ↓reduceIte, Nat.reduceEqDiff, Nat.reduceMul, Nat.reduceAdd, Nat.reduceDiv, Nat.reduceBEq, Nat.reduceLeDiff, Int.reduceToNat, Int.reduceNe, Int.reduceEq, Int.reduceLT, Int.reduceLE, Int.reduceBEq, Int.reduceBNe, ne_eq, not_true_eq_false, not_false_eq_true, decide_true, decide_false, List.length_map, h8]
  refine loopC_mk (fun n E σ => ∃ i : Nat, i + n = 8 ∧ E 4 = .own 10486048 1 0 8 ∧ E 6 = .own 10486128 3 0 p.length ∧ E 8 = .own 10486208 3 0 r.length ∧ E 10 = I (sumW b i) ∧ E 11 = I i ∧
    σ 10486048 = some ⟨3, 1, b.map I⟩ ∧ σ 10486128 = some ⟨47, 3, p.map DP⟩ ∧ σ 10486208 = some ⟨47, 3, r.map DP⟩) 8 ⟨0, rfl, ?_⟩ ?_
  · simp -implicitDefEqProofs (disch := omega) only [go_sem, ↓reduceIte, Nat.reduceEqDiff, Nat.reduceMul, Nat.reduceAdd, Nat.reduceDiv, Nat.reduceBEq, Nat.reduceLeDiff, Int.reduceToNat, Int.reduceNe, Int.reduceEq, Int.reduceLT, Int.reduceLE, Int.reduceBEq, Int.reduceBNe, ne_eq, not_true_eq_false, not_false_eq_true, decide_true, decide_false, List.length_map, h8]
    exact ⟨rfl, rfl⟩
  · rintro n E σ ⟨i, hi, h4, h6, h8', h10, h11, m4, m6, m8⟩
    simp -implicitDefEqProofs (disch := omega) only [go_sem, ↓reduceIte, Nat.reduceEqDiff, Nat.reduceMul, Nat.reduceAdd, Nat.reduceDiv, Nat.reduceBEq, Nat.reduceLeDiff, Int.reduceToNat, Int.reduceNe, Int.reduceEq, Int.reduceLT, Int.reduceLE, Int.reduceBEq, Int.reduceBNe, ne_eq, not_true_eq_false, not_false_eq_true, decide_true, decide_false, List.length_map, h4, h6, h8', h10, h11, m4, m6, m8]
    refine branch_mk (fun hc => ?_) (fun hc => ?_)
    · simp -implicitDefEqProofs (disch := omega) only [go_sem, ↓reduceIte, Nat.reduceEqDiff, Nat.reduceMul, Nat.reduceAdd, Nat.reduceDiv, Nat.reduceBEq, Nat.reduceLeDiff, Int.reduceToNat, Int.reduceNe, Int.reduceEq, Int.reduceLT, Int.reduceLE, Int.reduceBEq, Int.reduceBNe, ne_eq, not_true_eq_false, not_false_eq_true, decide_true, decide_false, List.length_map, h4, h6, h8', h10, h11, m4, m6, m8, h8]
      refine againQ_mk (n - 1) (by omega) ⟨i + 1, by omega, ?_⟩
      simp -implicitDefEqProofs (disch := omega) only [go_sem, ↓reduceIte, Nat.reduceEqDiff, Nat.reduceMul, Nat.reduceAdd, Nat.reduceDiv, Nat.reduceBEq, Nat.reduceLeDiff, Int.reduceToNat, Int.reduceNe, Int.reduceEq, Int.reduceLT, Int.reduceLE, Int.reduceBEq, Int.reduceBNe, ne_eq, not_true_eq_false, not_false_eq_true, decide_true, decide_false, List.length_map, h4, h6, h8', h10, h11, m4, m6, m8]
      exact ⟨rfl, by simp⟩
    · have : i = 8 := by omega
      subst this
      have e8 : b.take 8 = b := List.take_of_length_le (by omega)
      rw [hsw] at h10
      simp -implicitDefEqProofs (disch := omega) only [go_sem, ↓reduceIte, Nat.reduceEqDiff, Nat.reduceMul, Nat.reduceAdd, Nat.reduceDiv, Nat.reduceBEq, Nat.reduceLeDiff, Int.reduceToNat, Int.reduceNe, Int.reduceEq, Int.reduceLT, Int.reduceLE, Int.reduceBEq, Int.reduceBNe, ne_eq, not_true_eq_false, not_false_eq_true, decide_true, decide_false, List.length_map, h4, h6, h8', h10, h11, m4, m6, m8, e8]
      refine callC_at n1 ?_
      simp -implicitDefEqProofs (disch := omega) only [go_sem, ↓reduceIte, Nat.reduceEqDiff, Nat.reduceMul, Nat.reduceAdd, Nat.reduceDiv, Nat.reduceBEq, Nat.reduceLeDiff, Int.reduceToNat, Int.reduceNe, Int.reduceEq, Int.reduceLT, Int.reduceLE, Int.reduceBEq, Int.reduceBNe, ne_eq, not_true_eq_false, not_false_eq_true, decide_true, decide_false, List.length_map, h4, h6, h8', h10, h11, m4, m6, m8, h8, e8]
      refine callC_at i1 ?_
      simp -implicitDefEqProofs (disch := omega) only [go_sem, ↓reduceIte, Nat.reduceEqDiff, Nat.reduceMul, Nat.reduceAdd, Nat.reduceDiv, Nat.reduceBEq, Nat.reduceLeDiff, Int.reduceToNat, Int.reduceNe, Int.reduceEq, Int.reduceLT, Int.reduceLE, Int.reduceBEq, Int.reduceBNe, ne_eq, not_true_eq_false, not_false_eq_true, decide_true, decide_false, List.length_map, h4, h6, h8', h10, h11, m4, m6, m8, h8, e8]
      refine callC_at n2 ?_
      simp -implicitDefEqProofs (disch := omega) only [go_sem, ↓reduceIte, Nat.reduceEqDiff, Nat.reduceMul, Nat.reduceAdd, Nat.reduceDiv, Nat.reduceBEq, Nat.reduceLeDiff, Int.reduceToNat, Int.reduceNe, Int.reduceEq, Int.reduceLT, Int.reduceLE, Int.reduceBEq, Int.reduceBNe, ne_eq, not_true_eq_false, not_false_eq_true, decide_true, decide_false, List.length_map, h4, h6, h8', h10, h11, m4, m6, m8, h8, e8]
      refine callC_at i1 ?_
      simp -implicitDefEqProofs (disch := omega) only [go_sem, ↓reduceIte, Nat.reduceEqDiff, Nat.reduceMul, Nat.reduceAdd, Nat.reduceDiv, Nat.reduceBEq, Nat.reduceLeDiff, Int.reduceToNat, Int.reduceNe, Int.reduceEq, Int.reduceLT, Int.reduceLE, Int.reduceBEq, Int.reduceBNe, ne_eq, not_true_eq_false, not_false_eq_true, decide_true, decide_false, List.length_map, h4, h6, h8', h10, h11, m4, m6, m8, h8, e8, Try.results4]
end Go.Proofs.Ytjbgckjcbmmobaa

/- Chapter 39, NettingConserves: for every input the law returns true, and its argument reads afterwards as it read before. -/
set_option maxRecDepth 100000
namespace Go.Proofs.Ytjbgckjcbmmobaa
open Go.Vai Go Go.Proofs

theorem nettingConserves_lifted (os : Os) (started : os.Started) (H : Type) (enc : TypeId × Value → H) :
    ReturnsInHanded {} Try.checked os 4 .any (Rows.nettingConservesSpec.pre6 enc Try.prog Try.f4 [] false) (Rows.nettingConservesSpec.post enc Try.prog Try.f4 false true false false) :=
  lifted (C := Try.checked) (tb := 4) (ps := [OX]) own started (by kernel_rfl) Try.func4
    (ChangeSpec.witness6 (enc := enc) (C := Try.checked) false ⟨#[], #[.slice none 0 0], []⟩ 8 (by kernel_rfl) (by kernel_rfl) (by kernel_rfl) (by kernel_rfl))
    laidOut (by kernel_rfl) (by kernel_rfl) (by kernel_rfl) rfl (len_1 fun _ => rfl)
    (fun w => ⟨o_threes, trivial⟩)
    (allP_1 fun a0 h0 => by
      obtain ⟨x0, hx0, hr0, rfl⟩ := h0
      exact conserves_ev x0 hx0 hr0 )
theorem nettingConserves_holds : Rows.NettingConservesSaid :=
  OpenClaim.holds_of_wide 4 Try.f4 rfl rfl rfl rfl rfl rfl rfl ⟨rfl, rfl, rfl, rfl, rfl⟩ rfl rfl rfl rfl rfl (by kernel_rfl) Try.func4 (by kernel_rfl)
    (of_decide_eq_true (by kernel_rfl)) (by unfold Func.isWrapper; first | (rw [if_pos (by decide +kernel)]; kernel_rfl) | (rw [if_neg (by decide +kernel)]; exact ⟨rfl, rfl⟩))
    (fun os started H enc _ => nettingConserves_lifted os started H enc)
#print axioms nettingConserves_holds
end Go.Proofs.Ytjbgckjcbmmobaa

/- Chapter 24, RouteHolds: for every input the law returns true, and each argument reads afterwards as it read before. -/
import Derived.Test.YtmiahmpobpokmaaKF
/- Chapter 24: who holds. -/
set_option maxRecDepth 100000
set_option linter.unusedSimpArgs false
namespace Go.Proofs.Ytmiahmpobpokmaa
open Go.Vai Go Go.Proofs

theorem holds_ev (x y : List Int) (lag c : Int) (hx : x.length ≤ 9223372036854775807) (hy : y.length ≤ 9223372036854775807) (hxr : ∀ a ∈ x, R64 a) (hyr : ∀ a ∈ y, R64 a) (hl : R64 lag) (hc : R64 c) : Ev Try.prog 5 [SL x, SL y, I lag, I c] (B true) := by
  refine ev_of Try.func5 rfl (by kernel_rfl) mo (Nat.le_of_ble_eq_true rfl) ?_
  simp -implicitDefEqProofs (disch := omega) only [go_sem, ↓reduceIte, Nat.reduceEqDiff, Nat.reduceMul, Nat.reduceAdd, Nat.reduceDiv, Nat.reduceBEq, Nat.reduceLeDiff, Int.reduceToNat, Int.reduceNe, Int.reduceEq, Int.reduceLT, Int.reduceLE, Int.reduceBEq, Int.reduceBNe, ne_eq, not_true_eq_false, not_false_eq_true, decide_true, decide_false, Int.cast_ofNat_Int, beq_self_eq_true, eq_self, Bool.true_and, Bool.and_true, Bool.false_and, Bool.and_false, Bool.not_true, Bool.not_false, List.length_map, Try.ntmps5]
  refine callC_at sane_ev ?_
  simp -implicitDefEqProofs (disch := omega) only [go_sem, ↓reduceIte, Nat.reduceEqDiff, Nat.reduceMul, Nat.reduceAdd, Nat.reduceDiv, Nat.reduceBEq, Nat.reduceLeDiff, Int.reduceToNat, Int.reduceNe, Int.reduceEq, Int.reduceLT, Int.reduceLE, Int.reduceBEq, Int.reduceBNe, ne_eq, not_true_eq_false, not_false_eq_true, decide_true, decide_false, Int.cast_ofNat_Int, beq_self_eq_true, eq_self, Bool.true_and, Bool.and_true, Bool.false_and, Bool.and_false, Bool.not_true, Bool.not_false, List.length_map]
  refine callC_at (made_ev x y lag hx hy hxr hyr hl) ?_
  have hv := made_valid x y lag
  generalize knownF (madeH x) (madeL lag) y = k at *
  generalize madeH x = h at *
  generalize madeL lag = l at *
  simp -implicitDefEqProofs (disch := omega) only [go_sem, ↓reduceIte, Nat.reduceEqDiff, Nat.reduceMul, Nat.reduceAdd, Nat.reduceDiv, Nat.reduceBEq, Nat.reduceLeDiff, Int.reduceToNat, Int.reduceNe, Int.reduceEq, Int.reduceLT, Int.reduceLE, Int.reduceBEq, Int.reduceBNe, ne_eq, not_true_eq_false, not_false_eq_true, decide_true, decide_false, Int.cast_ofNat_Int, beq_self_eq_true, eq_self, Bool.true_and, Bool.and_true, Bool.false_and, Bool.and_false, Bool.not_true, Bool.not_false, List.length_map]
  refine callC_at (pick_ev' c 8 hc (by omega)) ?_
  have hd := pickF_in (c := c) (n := 8) (by omega)
  generalize pickF c 8 = d at *
  simp -implicitDefEqProofs (disch := omega) only [go_sem, ↓reduceIte, Nat.reduceEqDiff, Nat.reduceMul, Nat.reduceAdd, Nat.reduceDiv, Nat.reduceBEq, Nat.reduceLeDiff, Int.reduceToNat, Int.reduceNe, Int.reduceEq, Int.reduceLT, Int.reduceLE, Int.reduceBEq, Int.reduceBNe, ne_eq, not_true_eq_false, not_false_eq_true, decide_true, decide_false, Int.cast_ofNat_Int, beq_self_eq_true, eq_self, Bool.true_and, Bool.and_true, Bool.false_and, Bool.and_false, Bool.not_true, Bool.not_false, List.length_map]
  obtain ⟨g1, g2, g3, g4, g5, g6⟩ := valid_holders hv
  have hp := path_ev h k l d (by omega) (by omega) ⟨by omega, by omega⟩
  by_cases hcan : canF h k l d = true
  · rw [pathR, if_pos hcan] at hp
    have hP := path24 hcan
    have hat := holders_at g1
    clear hcan
    generalize (pathF h k d).2 = e at hp hP
    generalize (pathF h k d).1 = p at hp hP
    have hpos := hP.ok.pos
    have hshort := hP.short
    have hfin := hP.ok.fin
    have hl := hP.here _ (gd_mem p (p.length - 1) (by omega))
    have hk0 := hP.ok.last 0 (by omega)
    have hk1 := hP.ok.knows 0 (by omega)
    have hls := hP.least
    have hz : (gd p 0).1 = d := by rw [hP.ok.zero]
    rw [hz] at hk1
    have e0 : ((p.length : Int) - 1).toNat = p.length - 1 := by omega
    refine callC_at hp ?_ (h1 := .inr (by simp only [go_sem, AV.flat, AV.flatL, Bool.and_self]))
    simp -implicitDefEqProofs (disch := omega) only [go_sem, ↓reduceIte, Nat.reduceEqDiff, Nat.reduceMul, Nat.reduceAdd, Nat.reduceDiv, Nat.reduceBEq, Nat.reduceLeDiff, Int.reduceToNat, Int.reduceNe, Int.reduceEq, Int.reduceLT, Int.reduceLE, Int.reduceBEq, Int.reduceBNe, ne_eq, not_true_eq_false, not_false_eq_true, decide_true, decide_false, Int.cast_ofNat_Int, beq_self_eq_true, eq_self, Bool.true_and, Bool.and_true, Bool.false_and, Bool.and_false, Bool.not_true, Bool.not_false, List.length_map, e0]
    repeat' (first | ((with_reducible refine branch_mk (fun hb => ?_) (fun hb => ?_)) <;> simp -implicitDefEqProofs (disch := omega) only [go_sem, ↓reduceIte, Nat.reduceEqDiff, Nat.reduceMul, Nat.reduceAdd, Nat.reduceDiv, Nat.reduceBEq, Nat.reduceLeDiff, Int.reduceToNat, Int.reduceNe, Int.reduceEq, Int.reduceLT, Int.reduceLE, Int.reduceBEq, Int.reduceBNe, ne_eq, not_true_eq_false, not_false_eq_true, decide_true, decide_false, Int.cast_ofNat_Int, beq_self_eq_true, eq_self, Bool.true_and, Bool.and_true, Bool.false_and, Bool.and_false, Bool.not_true, Bool.not_false, List.length_map, e0, Try.results5, hb]))
    all_goals first
      | (exfalso; omega)
      | skip
    refine loopC_mk (fun n E σ => ∃ i : Nat, i + n = p.length ∧ E 10 = .own 12583328 1 0 h.length ∧ E 11 = .own 12583329 1 0 8 ∧ E 13 = .own 12583488 2 0 p.length ∧ E 14 = I e ∧ E 16 = .ptr 12583168 2 0 0 ∧ E 17 = I i ∧ σ 12583328 = some ⟨3, 1, h.map I⟩ ∧ σ 12583329 = some ⟨3, 1, k.map I⟩ ∧ σ 12583488 = some ⟨40, 2, p.map HP⟩ ∧ σ 12583168 = some ⟨40, 2, [HP (gd p (p.length - 1))]⟩) p.length ⟨0, by omega, ?_⟩ ?_
    · simp -implicitDefEqProofs (disch := omega) only [go_sem, ↓reduceIte, Nat.reduceEqDiff, Nat.reduceMul, Nat.reduceAdd, Nat.reduceDiv, Nat.reduceBEq, Nat.reduceLeDiff, Int.reduceToNat, Int.reduceNe, Int.reduceEq, Int.reduceLT, Int.reduceLE, Int.reduceBEq, Int.reduceBNe, ne_eq, not_true_eq_false, not_false_eq_true, decide_true, decide_false, Int.cast_ofNat_Int, beq_self_eq_true, eq_self, Bool.true_and, Bool.and_true, Bool.false_and, Bool.and_false, Bool.not_true, Bool.not_false, List.length_map, e0, g2]
    · rintro n E σ ⟨i, hi, h10, h11, h13, h14, h16, h17, hs1, hs2, hs3, hs4⟩
      simp -implicitDefEqProofs (disch := omega) only [go_sem, ↓reduceIte, Nat.reduceEqDiff, Nat.reduceMul, Nat.reduceAdd, Nat.reduceDiv, Nat.reduceBEq, Nat.reduceLeDiff, Int.reduceToNat, Int.reduceNe, Int.reduceEq, Int.reduceLT, Int.reduceLE, Int.reduceBEq, Int.reduceBNe, ne_eq, not_true_eq_false, not_false_eq_true, decide_true, decide_false, Int.cast_ofNat_Int, beq_self_eq_true, eq_self, Bool.true_and, Bool.and_true, Bool.false_and, Bool.and_false, Bool.not_true, Bool.not_false, List.length_map, h10, h11, h13, h14, h16, h17, hs1, hs2, hs3, hs4]
      refine branch_mk (fun hc => ?_) (fun hc => ?_)
      · have hi1 := hP.here _ (gd_mem p i (by omega))
        have hi2 := hP.ok.knows i (by omega)
        have hi3 := hP.ok.last i (by omega)
        simp -implicitDefEqProofs (disch := omega) only [go_sem, ↓reduceIte, Nat.reduceEqDiff, Nat.reduceMul, Nat.reduceAdd, Nat.reduceDiv, Nat.reduceBEq, Nat.reduceLeDiff, Int.reduceToNat, Int.reduceNe, Int.reduceEq, Int.reduceLT, Int.reduceLE, Int.reduceBEq, Int.reduceBNe, ne_eq, not_true_eq_false, not_false_eq_true, decide_true, decide_false, Int.cast_ofNat_Int, beq_self_eq_true, eq_self, Bool.true_and, Bool.and_true, Bool.false_and, Bool.and_false, Bool.not_true, Bool.not_false, List.length_map, h10, h11, h13, h14, h16, h17, hs1, hs2, hs3, hs4]
        repeat' (first | ((with_reducible refine branch_mk (fun hb => ?_) (fun hb => ?_)) <;> simp -implicitDefEqProofs (disch := omega) only [go_sem, ↓reduceIte, Nat.reduceEqDiff, Nat.reduceMul, Nat.reduceAdd, Nat.reduceDiv, Nat.reduceBEq, Nat.reduceLeDiff, Int.reduceToNat, Int.reduceNe, Int.reduceEq, Int.reduceLT, Int.reduceLE, Int.reduceBEq, Int.reduceBNe, ne_eq, not_true_eq_false, not_false_eq_true, decide_true, decide_false, Int.cast_ofNat_Int, beq_self_eq_true, eq_self, Bool.true_and, Bool.and_true, Bool.false_and, Bool.and_false, Bool.not_true, Bool.not_false, List.length_map, h10, h11, h13, h14, h16, h17, hs1, hs2, hs3, hs4, Try.results5, hb]))
        all_goals first
          | (exfalso; omega)
          | (refine againQ_mk (n - 1) (by omega) ⟨i + 1, by omega, ?_⟩
             simp -implicitDefEqProofs (disch := omega) only [go_sem, ↓reduceIte, Nat.reduceEqDiff, Nat.reduceMul, Nat.reduceAdd, Nat.reduceDiv, Nat.reduceBEq, Nat.reduceLeDiff, Int.reduceToNat, Int.reduceNe, Int.reduceEq, Int.reduceLT, Int.reduceLE, Int.reduceBEq, Int.reduceBNe, ne_eq, not_true_eq_false, not_false_eq_true, decide_true, decide_false, Int.cast_ofNat_Int, beq_self_eq_true, eq_self, Bool.true_and, Bool.and_true, Bool.false_and, Bool.and_false, Bool.not_true, Bool.not_false, List.length_map, h10, h11, h13, h14, h16, h17, hs1, hs2, hs3, hs4]
             simp)
      · have hl2 := hat (gd p (p.length - 1)).2.toNat (by omega)
        simp -implicitDefEqProofs (disch := omega) only [go_sem, ↓reduceIte, Nat.reduceEqDiff, Nat.reduceMul, Nat.reduceAdd, Nat.reduceDiv, Nat.reduceBEq, Nat.reduceLeDiff, Int.reduceToNat, Int.reduceNe, Int.reduceEq, Int.reduceLT, Int.reduceLE, Int.reduceBEq, Int.reduceBNe, ne_eq, not_true_eq_false, not_false_eq_true, decide_true, decide_false, Int.cast_ofNat_Int, beq_self_eq_true, eq_self, Bool.true_and, Bool.and_true, Bool.false_and, Bool.and_false, Bool.not_true, Bool.not_false, List.length_map, h10, h11, h13, h14, h16, h17, hs1, hs2, hs3, hs4]
        rcases hfin with ⟨rfl, h1⟩ | ⟨rfl, h1⟩ | ⟨rfl, h1, h2, h3⟩
        · simp -implicitDefEqProofs (disch := omega) only [go_sem, ↓reduceIte, Nat.reduceEqDiff, Nat.reduceMul, Nat.reduceAdd, Nat.reduceDiv, Nat.reduceBEq, Nat.reduceLeDiff, Int.reduceToNat, Int.reduceNe, Int.reduceEq, Int.reduceLT, Int.reduceLE, Int.reduceBEq, Int.reduceBNe, ne_eq, not_true_eq_false, not_false_eq_true, decide_true, decide_false, Int.cast_ofNat_Int, beq_self_eq_true, eq_self, Bool.true_and, Bool.and_true, Bool.false_and, Bool.and_false, Bool.not_true, Bool.not_false, List.length_map, h10, h11, h13, h14, h16, h17, hs1, hs2, hs3, hs4, Try.results5, h1]
        · simp -implicitDefEqProofs (disch := omega) only [go_sem, ↓reduceIte, Nat.reduceEqDiff, Nat.reduceMul, Nat.reduceAdd, Nat.reduceDiv, Nat.reduceBEq, Nat.reduceLeDiff, Int.reduceToNat, Int.reduceNe, Int.reduceEq, Int.reduceLT, Int.reduceLE, Int.reduceBEq, Int.reduceBNe, ne_eq, not_true_eq_false, not_false_eq_true, decide_true, decide_false, Int.cast_ofNat_Int, beq_self_eq_true, eq_self, Bool.true_and, Bool.and_true, Bool.false_and, Bool.and_false, Bool.not_true, Bool.not_false, List.length_map, h10, h11, h13, h14, h16, h17, hs1, hs2, hs3, hs4, Try.results5, h1]
        · simp -implicitDefEqProofs (disch := omega) only [go_sem, ↓reduceIte, Nat.reduceEqDiff, Nat.reduceMul, Nat.reduceAdd, Nat.reduceDiv, Nat.reduceBEq, Nat.reduceLeDiff, Int.reduceToNat, Int.reduceNe, Int.reduceEq, Int.reduceLT, Int.reduceLE, Int.reduceBEq, Int.reduceBNe, ne_eq, not_true_eq_false, not_false_eq_true, decide_true, decide_false, Int.cast_ofNat_Int, beq_self_eq_true, eq_self, Bool.true_and, Bool.and_true, Bool.false_and, Bool.and_false, Bool.not_true, Bool.not_false, List.length_map, h10, h11, h13, h14, h16, h17, hs1, hs2, hs3, hs4, Try.results5, h1, h2, h3]
  · rw [pathR, if_neg hcan] at hp
    refine callC_at hp ?_
    simp -implicitDefEqProofs (disch := omega) only [go_sem, ↓reduceIte, Nat.reduceEqDiff, Nat.reduceMul, Nat.reduceAdd, Nat.reduceDiv, Nat.reduceBEq, Nat.reduceLeDiff, Int.reduceToNat, Int.reduceNe, Int.reduceEq, Int.reduceLT, Int.reduceLE, Int.reduceBEq, Int.reduceBNe, ne_eq, not_true_eq_false, not_false_eq_true, decide_true, decide_false, Int.cast_ofNat_Int, beq_self_eq_true, eq_self, Bool.true_and, Bool.and_true, Bool.false_and, Bool.and_false, Bool.not_true, Bool.not_false, List.length_map, Try.results5]
end Go.Proofs.Ytmiahmpobpokmaa

/- Chapter 24, RouteHolds: for every input the law returns true, and each argument reads afterwards as it read before. -/
set_option maxRecDepth 100000
namespace Go.Proofs.Ytmiahmpobpokmaa
open Go.Vai Go Go.Proofs

theorem routeHolds_lifted (os : Os) (started : os.Started) (H : Type) (enc : TypeId × Value → H) :
    ReturnsInHanded {} Try.checked os 5 .any (Rows.routeHoldsSpec.pre6 enc Try.prog Try.f5 [] false) (Rows.routeHoldsSpec.post enc Try.prog Try.f5 false true false false) :=
  lifted (C := Try.checked) (tb := 4) (ps := [OS, OS, OI, OI]) own started (by kernel_rfl) Try.func5
    (ChangeSpec.witness6 (enc := enc) (C := Try.checked) false ⟨#[], #[.slice none 0 0, .slice none 0 0, .int .i64 0, .int .i64 0], []⟩ 8 (by kernel_rfl) (by kernel_rfl) (by kernel_rfl) (by kernel_rfl))
    laidOut (by kernel_rfl) (by kernel_rfl) (by kernel_rfl) rfl (len_4 fun _ _ _ _ => rfl)
    (fun w => ⟨o_ints, o_ints, o_int (by kernel_rfl), o_int (by kernel_rfl), trivial⟩)
    (allP_4 fun a0 a1 a2 a3 h0 h1 h2 h3 => by
      obtain ⟨x0, hx0, hr0, rfl⟩ := h0
      obtain ⟨x1, hx1, hr1, rfl⟩ := h1
      obtain ⟨x2, hx2, rfl⟩ := h2
      obtain ⟨x3, hx3, rfl⟩ := h3
      exact holds_ev x0 x1 x2 x3 hx0 hx1 hr0 hr1 hx2 hx3)
theorem routeHolds_holds : Rows.RouteHoldsSaid :=
  OpenClaim.holds_of_wide 5 Try.f5 rfl rfl rfl rfl rfl rfl rfl ⟨rfl, rfl, rfl, rfl, rfl⟩ rfl rfl rfl rfl rfl (by kernel_rfl) Try.func5 (by kernel_rfl)
    (of_decide_eq_true (by kernel_rfl)) (by unfold Func.isWrapper; first | (rw [if_pos (by decide +kernel)]; kernel_rfl) | (rw [if_neg (by decide +kernel)]; exact ⟨rfl, rfl⟩))
    (fun os started H enc _ => routeHolds_lifted os started H enc)
#print axioms routeHolds_holds
end Go.Proofs.Ytmiahmpobpokmaa

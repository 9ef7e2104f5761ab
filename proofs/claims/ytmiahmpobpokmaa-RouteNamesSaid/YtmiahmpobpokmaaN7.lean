/- Chapter 24, RouteNames: for every input the law returns true, and each argument reads afterwards as it read before. -/
import Derived.Test.YtmiahmpobpokmaaKF
/- Chapter 24: other numbers. -/
set_option maxRecDepth 100000
set_option linter.unusedSimpArgs false
namespace Go.Proofs.Ytmiahmpobpokmaa
open Go.Vai Go Go.Proofs

theorem take_succ_gd {T : Type} [Inhabited T] (l : List T) (n : Nat) (h : n < l.length) : l.take (n + 1) = l.take n ++ [gd l n] := by
  rw [List.take_add_one, gd_some l n h]; rfl
theorem gd_map {T U : Type} [Inhabited T] [Inhabited U] (l : List T) (f : T → U) (i : Nat) (h : i < l.length) : gd (l.map f) i = f (gd l i) := by
  have : (l.map f)[i]? = some (f (gd l i)) := by rw [List.getElem?_map, gd_some l i h]; rfl
  simp [gd, this]

set_option maxHeartbeats 4000000 in
theorem names_ev (x y : List Int) (lag turn c : Int) (hx : x.length ≤ 9223372036854775807) (hy : y.length ≤ 9223372036854775807) (hxr : ∀ a ∈ x, R64 a) (hyr : ∀ a ∈ y, R64 a) (hl : R64 lag) (htn : R64 turn) (hc : R64 c) : Ev Try.prog 10 [SL x, SL y, I lag, I turn, I c] (B true) := by
  refine ev_of Try.func10 rfl (by kernel_rfl) mo (Nat.le_of_ble_eq_true rfl) ?_
  simp -implicitDefEqProofs (disch := omega) only [go_sem, ↓reduceIte, Nat.reduceEqDiff, Nat.reduceMul, Nat.reduceAdd, Nat.reduceDiv, Nat.reduceBEq, Nat.reduceLeDiff, Int.reduceToNat, Int.reduceNe, Int.reduceEq, Int.reduceLT, Int.reduceLE, Int.reduceBEq, Int.reduceBNe, ne_eq, not_true_eq_false, not_false_eq_true, decide_true, decide_false, Int.cast_ofNat_Int, beq_self_eq_true, eq_self, Bool.true_and, Bool.and_true, Bool.false_and, Bool.and_false, Bool.not_true, Bool.not_false, List.length_map, Try.ntmps10]
  refine callC_at sane_ev ?_
  simp -implicitDefEqProofs (disch := omega) only [go_sem, ↓reduceIte, Nat.reduceEqDiff, Nat.reduceMul, Nat.reduceAdd, Nat.reduceDiv, Nat.reduceBEq, Nat.reduceLeDiff, Int.reduceToNat, Int.reduceNe, Int.reduceEq, Int.reduceLT, Int.reduceLE, Int.reduceBEq, Int.reduceBNe, ne_eq, not_true_eq_false, not_false_eq_true, decide_true, decide_false, Int.cast_ofNat_Int, beq_self_eq_true, eq_self, Bool.true_and, Bool.and_true, Bool.false_and, Bool.and_false, Bool.not_true, Bool.not_false, List.length_map]
  refine callC_at (made_ev x y lag hx hy hxr hyr hl) ?_
  have hv := made_valid x y lag
  generalize knownF (madeH x) (madeL lag) y = k at *
  generalize madeH x = h at *
  generalize madeL lag = l at *
  obtain ⟨g1, g2, g3, g4, g5, g6⟩ := valid_holders hv
  have hat := holders_at g1
  simp -implicitDefEqProofs (disch := omega) only [go_sem, ↓reduceIte, Nat.reduceEqDiff, Nat.reduceMul, Nat.reduceAdd, Nat.reduceDiv, Nat.reduceBEq, Nat.reduceLeDiff, Int.reduceToNat, Int.reduceNe, Int.reduceEq, Int.reduceLT, Int.reduceLE, Int.reduceBEq, Int.reduceBNe, ne_eq, not_true_eq_false, not_false_eq_true, decide_true, decide_false, Int.cast_ofNat_Int, beq_self_eq_true, eq_self, Bool.true_and, Bool.and_true, Bool.false_and, Bool.and_false, Bool.not_true, Bool.not_false, List.length_map]
  refine callC_at (pick_ev' turn 8 htn (by omega)) ?_
  have ht := pickF_in (c := turn) (n := 8) (by omega)
  generalize pickF turn 8 = t at *
  simp -implicitDefEqProofs (disch := omega) only [go_sem, ↓reduceIte, Nat.reduceEqDiff, Nat.reduceMul, Nat.reduceAdd, Nat.reduceDiv, Nat.reduceBEq, Nat.reduceLeDiff, Int.reduceToNat, Int.reduceNe, Int.reduceEq, Int.reduceLT, Int.reduceLE, Int.reduceBEq, Int.reduceBNe, ne_eq, not_true_eq_false, not_false_eq_true, decide_true, decide_false, Int.cast_ofNat_Int, beq_self_eq_true, eq_self, Bool.true_and, Bool.and_true, Bool.false_and, Bool.and_false, Bool.not_true, Bool.not_false, List.length_map]
  refine loopC_mk (fun n E σ => ∃ v : Nat, v + n = h.length ∧ E 4 = I c ∧ E 11 = B true ∧ E 12 = .own 23069232 1 0 h.length ∧ E 13 = .own 23069233 1 0 8 ∧ E 14 = I l ∧ E 15 = I t ∧ E 16 = .own 23068928 1 0 v ∧ E 17 = I v ∧
    σ 23069232 = some ⟨3, 1, h.map I⟩ ∧ σ 23069233 = some ⟨3, 1, k.map I⟩ ∧ σ 23068928 = some ⟨3, 1, (rotH t (h.take v)).map I⟩) h.length ⟨0, by omega, ?_⟩ ?_
  · simp -implicitDefEqProofs (disch := omega) only [go_sem, ↓reduceIte, Nat.reduceEqDiff, Nat.reduceMul, Nat.reduceAdd, Nat.reduceDiv, Nat.reduceBEq, Nat.reduceLeDiff, Int.reduceToNat, Int.reduceNe, Int.reduceEq, Int.reduceLT, Int.reduceLE, Int.reduceBEq, Int.reduceBNe, ne_eq, not_true_eq_false, not_false_eq_true, decide_true, decide_false, Int.cast_ofNat_Int, beq_self_eq_true, eq_self, Bool.true_and, Bool.and_true, Bool.false_and, Bool.and_false, Bool.not_true, Bool.not_false, List.length_map, g2]
    trace_state
  · rintro n E σ ⟨v, hvn, e4, e11, e12, e13, e14, e15, e16, e17, hs1, hs2, hs3⟩
    simp -implicitDefEqProofs (disch := omega) only [go_sem, ↓reduceIte, Nat.reduceEqDiff, Nat.reduceMul, Nat.reduceAdd, Nat.reduceDiv, Nat.reduceBEq, Nat.reduceLeDiff, Int.reduceToNat, Int.reduceNe, Int.reduceEq, Int.reduceLT, Int.reduceLE, Int.reduceBEq, Int.reduceBNe, ne_eq, not_true_eq_false, not_false_eq_true, decide_true, decide_false, Int.cast_ofNat_Int, beq_self_eq_true, eq_self, Bool.true_and, Bool.and_true, Bool.false_and, Bool.and_false, Bool.not_true, Bool.not_false, List.length_map, e4, e11, e12, e13, e14, e15, e16, e17, hs1, hs2, hs3]
    have hlt : (rotH t (h.take v)).length = v := by simp [rotH]; omega
    refine branch_mk (fun hb => ?_) (fun hb => ?_)
    · have hh := hat v (by omega)
      have htk := take_succ_gd h v (by omega)
      have hrt : rotH t (h.take (v + 1)) = rotH t (h.take v) ++ [rotF t (gd h v)] := by rw [htk]; simp [rotH]
      simp -implicitDefEqProofs (disch := omega) only [go_sem, ↓reduceIte, Nat.reduceEqDiff, Nat.reduceMul, Nat.reduceAdd, Nat.reduceDiv, Nat.reduceBEq, Nat.reduceLeDiff, Int.reduceToNat, Int.reduceNe, Int.reduceEq, Int.reduceLT, Int.reduceLE, Int.reduceBEq, Int.reduceBNe, ne_eq, not_true_eq_false, not_false_eq_true, decide_true, decide_false, Int.cast_ofNat_Int, beq_self_eq_true, eq_self, Bool.true_and, Bool.and_true, Bool.false_and, Bool.and_false, Bool.not_true, Bool.not_false, List.length_map, e4, e11, e12, e13, e14, e15, e16, e17, hs1, hs2, hs3]
      refine branch_mk (fun hn => ?_) (fun hn => ?_)
      · have hr : rotF t (gd h v) = -1 := if_pos hn
        simp -implicitDefEqProofs (disch := omega) only [go_sem, ↓reduceIte, Nat.reduceEqDiff, Nat.reduceMul, Nat.reduceAdd, Nat.reduceDiv, Nat.reduceBEq, Nat.reduceLeDiff, Int.reduceToNat, Int.reduceNe, Int.reduceEq, Int.reduceLT, Int.reduceLE, Int.reduceBEq, Int.reduceBNe, ne_eq, not_true_eq_false, not_false_eq_true, decide_true, decide_false, Int.cast_ofNat_Int, beq_self_eq_true, eq_self, Bool.true_and, Bool.and_true, Bool.false_and, Bool.and_false, Bool.not_true, Bool.not_false, List.length_map, e4, e11, e12, e13, e14, e15, e16, e17, hs1, hs2, hs3, hlt]
        refine againQ_mk (n - 1) (by omega) ⟨v + 1, by omega, ?_⟩
        simp -implicitDefEqProofs (disch := omega) only [go_sem, ↓reduceIte, Nat.reduceEqDiff, Nat.reduceMul, Nat.reduceAdd, Nat.reduceDiv, Nat.reduceBEq, Nat.reduceLeDiff, Int.reduceToNat, Int.reduceNe, Int.reduceEq, Int.reduceLT, Int.reduceLE, Int.reduceBEq, Int.reduceBNe, ne_eq, not_true_eq_false, not_false_eq_true, decide_true, decide_false, Int.cast_ofNat_Int, beq_self_eq_true, eq_self, Bool.true_and, Bool.and_true, Bool.false_and, Bool.and_false, Bool.not_true, Bool.not_false, List.length_map, e4, e11, e12, e13, e14, e15, e16, e17, hs1, hs2, hs3, hlt]
        rw [hrt, hr]
        exact ⟨by simp, rfl⟩
      · have hr : rotF t (gd h v) = (gd h v + t).tmod 8 := if_neg hn
        simp -implicitDefEqProofs (disch := omega) only [go_sem, ↓reduceIte, Nat.reduceEqDiff, Nat.reduceMul, Nat.reduceAdd, Nat.reduceDiv, Nat.reduceBEq, Nat.reduceLeDiff, Int.reduceToNat, Int.reduceNe, Int.reduceEq, Int.reduceLT, Int.reduceLE, Int.reduceBEq, Int.reduceBNe, ne_eq, not_true_eq_false, not_false_eq_true, decide_true, decide_false, Int.cast_ofNat_Int, beq_self_eq_true, eq_self, Bool.true_and, Bool.and_true, Bool.false_and, Bool.and_false, Bool.not_true, Bool.not_false, List.length_map, e4, e11, e12, e13, e14, e15, e16, e17, hs1, hs2, hs3, hlt]
        refine againQ_mk (n - 1) (by omega) ⟨v + 1, by omega, ?_⟩
        simp -implicitDefEqProofs (disch := omega) only [go_sem, ↓reduceIte, Nat.reduceEqDiff, Nat.reduceMul, Nat.reduceAdd, Nat.reduceDiv, Nat.reduceBEq, Nat.reduceLeDiff, Int.reduceToNat, Int.reduceNe, Int.reduceEq, Int.reduceLT, Int.reduceLE, Int.reduceBEq, Int.reduceBNe, ne_eq, not_true_eq_false, not_false_eq_true, decide_true, decide_false, Int.cast_ofNat_Int, beq_self_eq_true, eq_self, Bool.true_and, Bool.and_true, Bool.false_and, Bool.and_false, Bool.not_true, Bool.not_false, List.length_map, e4, e11, e12, e13, e14, e15, e16, e17, hs1, hs2, hs3, hlt]
        rw [hrt, hr]
        exact ⟨by simp, rfl⟩
    · simp -implicitDefEqProofs (disch := omega) only [go_sem, ↓reduceIte, Nat.reduceEqDiff, Nat.reduceMul, Nat.reduceAdd, Nat.reduceDiv, Nat.reduceBEq, Nat.reduceLeDiff, Int.reduceToNat, Int.reduceNe, Int.reduceEq, Int.reduceLT, Int.reduceLE, Int.reduceBEq, Int.reduceBNe, ne_eq, not_true_eq_false, not_false_eq_true, decide_true, decide_false, Int.cast_ofNat_Int, beq_self_eq_true, eq_self, Bool.true_and, Bool.and_true, Bool.false_and, Bool.and_false, Bool.not_true, Bool.not_false, List.length_map, e4, e11, e12, e13, e14, e15, e16, e17, hs1, hs2, hs3]
      rw [show v = h.length from by omega, List.take_length] at hs3
      rw [show v = h.length from by omega] at e16
      refine loopC_mk (fun n E σ => ∃ (i : Nat) (m : List Int), i + n = 8 ∧ E 4 = I c ∧ E 11 = B true ∧ E 12 = .own 23069232 1 0 h.length ∧ E 13 = .own 23069233 1 0 8 ∧ E 14 = I l ∧ E 15 = I t ∧ E 16 = .own 23068928 1 0 h.length ∧ E 18 = .own 23069712 1 0 8 ∧ E 19 = I i ∧
        σ 23069232 = some ⟨3, 1, h.map I⟩ ∧ σ 23069233 = some ⟨3, 1, k.map I⟩ ∧ σ 23068928 = some ⟨3, 1, (rotH t h).map I⟩ ∧ σ 23069712 = some ⟨3, 1, m.map I⟩ ∧ m.length = 8 ∧ ∀ c : Nat, c < i → gd m (rotF t c).toNat = gd k c) 8 ⟨0, List.replicate 8 0, by omega, ?_⟩ ?_
      · simp -implicitDefEqProofs (disch := omega) only [go_sem, ↓reduceIte, Nat.reduceEqDiff, Nat.reduceMul, Nat.reduceAdd, Nat.reduceDiv, Nat.reduceBEq, Nat.reduceLeDiff, Int.reduceToNat, Int.reduceNe, Int.reduceEq, Int.reduceLT, Int.reduceLE, Int.reduceBEq, Int.reduceBNe, ne_eq, not_true_eq_false, not_false_eq_true, decide_true, decide_false, Int.cast_ofNat_Int, beq_self_eq_true, eq_self, Bool.true_and, Bool.and_true, Bool.false_and, Bool.and_false, Bool.not_true, Bool.not_false, List.length_map, e4, e11, e12, e13, e14, e15, e16, hs1, hs2, hs3]
        exact ⟨rfl, rfl, fun c hc => by omega⟩
      · clear e4 e11 e12 e13 e14 e15 e16 e17 hs1 hs2 hs3
        rintro n' E σ ⟨i, m, hi, e4, e11, e12, e13, e14, e15, e16, e18, e19, hs1, hs2, hs3, hs4, hm8, hall⟩
        simp -implicitDefEqProofs (disch := omega) only [go_sem, ↓reduceIte, Nat.reduceEqDiff, Nat.reduceMul, Nat.reduceAdd, Nat.reduceDiv, Nat.reduceBEq, Nat.reduceLeDiff, Int.reduceToNat, Int.reduceNe, Int.reduceEq, Int.reduceLT, Int.reduceLE, Int.reduceBEq, Int.reduceBNe, ne_eq, not_true_eq_false, not_false_eq_true, decide_true, decide_false, Int.cast_ofNat_Int, beq_self_eq_true, eq_self, Bool.true_and, Bool.and_true, Bool.false_and, Bool.and_false, Bool.not_true, Bool.not_false, List.length_map, e4, e11, e12, e13, e14, e15, e16, e18, e19, hs1, hs2, hs3, hs4]
        refine branch_mk (fun hb => ?_) (fun hb => ?_)
        · have hri := rotF_in (t := t) (c := i) ⟨ht.1, by omega⟩ (by omega)
          have hr0 : rotF t (i : Int) = ((i : Int) + t).tmod 8 := if_neg (by omega)
          have hr1 : 0 ≤ ((i : Int) + t).tmod 8 := by rw [← hr0]; omega
          have hr2 : ((i : Int) + t).tmod 8 ≤ 7 := by rw [← hr0]; omega
          simp -implicitDefEqProofs (disch := omega) only [go_sem, ↓reduceIte, Nat.reduceEqDiff, Nat.reduceMul, Nat.reduceAdd, Nat.reduceDiv, Nat.reduceBEq, Nat.reduceLeDiff, Int.reduceToNat, Int.reduceNe, Int.reduceEq, Int.reduceLT, Int.reduceLE, Int.reduceBEq, Int.reduceBNe, ne_eq, not_true_eq_false, not_false_eq_true, decide_true, decide_false, Int.cast_ofNat_Int, beq_self_eq_true, eq_self, Bool.true_and, Bool.and_true, Bool.false_and, Bool.and_false, Bool.not_true, Bool.not_false, List.length_map, e4, e11, e12, e13, e14, e15, e16, e18, e19, hs1, hs2, hs3, hs4]
          refine againQ_mk (n' - 1) (by omega) ⟨i + 1, m.set (rotF t i).toNat (gd k i), by omega, ?_⟩
          simp -implicitDefEqProofs (disch := omega) only [go_sem, ↓reduceIte, Nat.reduceEqDiff, Nat.reduceMul, Nat.reduceAdd, Nat.reduceDiv, Nat.reduceBEq, Nat.reduceLeDiff, Int.reduceToNat, Int.reduceNe, Int.reduceEq, Int.reduceLT, Int.reduceLE, Int.reduceBEq, Int.reduceBNe, ne_eq, not_true_eq_false, not_false_eq_true, decide_true, decide_false, Int.cast_ofNat_Int, beq_self_eq_true, eq_self, Bool.true_and, Bool.and_true, Bool.false_and, Bool.and_false, Bool.not_true, Bool.not_false, List.length_map, e4, e11, e12, e13, e14, e15, e16, e18, e19, hs1, hs2, hs3, hs4]
          refine ⟨by simp, by rw [hr0], by simp [hm8], fun c hc => ?_⟩
          rw [gd_set _ _ _ _ (by omega)]
          by_cases e : c = i
          · subst e; rw [if_pos rfl]
          · have hrc := rotF_in (t := t) (c := c) ⟨ht.1, by omega⟩ (by omega)
            have hj := rotF_inj (t := t) (c := c) (d := i) ⟨ht.1, by omega⟩ (by omega) (by omega)
            rw [if_neg (by omega)]; exact hall c (by omega)
        · obtain rfl : i = 8 := by omega
          have hT : TurnedF t k m := ⟨hm8, hall⟩
          have ht7 : 0 ≤ t ∧ t ≤ 7 := by omega
          simp -implicitDefEqProofs (disch := omega) only [go_sem, ↓reduceIte, Nat.reduceEqDiff, Nat.reduceMul, Nat.reduceAdd, Nat.reduceDiv, Nat.reduceBEq, Nat.reduceLeDiff, Int.reduceToNat, Int.reduceNe, Int.reduceEq, Int.reduceLT, Int.reduceLE, Int.reduceBEq, Int.reduceBNe, ne_eq, not_true_eq_false, not_false_eq_true, decide_true, decide_false, Int.cast_ofNat_Int, beq_self_eq_true, eq_self, Bool.true_and, Bool.and_true, Bool.false_and, Bool.and_false, Bool.not_true, Bool.not_false, List.length_map, e4, e11, e12, e13, e14, e15, e16, e18, e19, hs1, hs2, hs3, hs4]
          refine callC_at (pick_ev' c 8 hc (by omega)) ?_
          have hd := pickF_in (c := c) (n := 8) (by omega)
          generalize pickF c 8 = d at *
          have hrd : (d + t).tmod 8 = rotF t d := (if_neg (by omega)).symm
          have hval := valid_ev (rotH t h) m l (by simp [rotH]; omega) (by omega) ⟨by omega, by omega⟩
          rw [turned_valid hv ht7 hT] at hval
          have hmc := turned_can hv ht7 hT d (by omega)
          have hp := path_ev h k l d (by omega) (by omega) ⟨by omega, by omega⟩
          have hq := path_ev (rotH t h) m l (rotF t d) (by simp [rotH]; omega) (by omega) ⟨by omega, by omega⟩
          have hrl : (rotH t h).length = h.length := by simp [rotH]
          by_cases hcan : canF h k l d = true
          · have hP := path24 hcan
            have hpath := turned_path hv ht7 hT hcan
            rw [pathR, if_pos hcan] at hp
            rw [pathR, if_pos (hmc.trans hcan), hpath] at hq
            simp only at hq
            clear hcan hmc hpath
            generalize (pathF h k d).2 = e at hp hP hq
            generalize (pathF h k d).1 = p at hp hP hq
            have hql : (p.map fun x => (rotF t x.1, x.2)).length = p.length := by simp
            have hqi : ∀ i, i < p.length → gd (p.map fun x => (rotF t x.1, x.2)) i = (rotF t (gd p i).1, (gd p i).2) := fun i hi => gd_map p _ i hi
            generalize (p.map fun x => (rotF t x.1, x.2)) = q at *
            have p1 := hP.short
            simp -implicitDefEqProofs (disch := omega) only [go_sem, ↓reduceIte, Nat.reduceEqDiff, Nat.reduceMul, Nat.reduceAdd, Nat.reduceDiv, Nat.reduceBEq, Nat.reduceLeDiff, Int.reduceToNat, Int.reduceNe, Int.reduceEq, Int.reduceLT, Int.reduceLE, Int.reduceBEq, Int.reduceBNe, ne_eq, not_true_eq_false, not_false_eq_true, decide_true, decide_false, Int.cast_ofNat_Int, beq_self_eq_true, eq_self, Bool.true_and, Bool.and_true, Bool.false_and, Bool.and_false, Bool.not_true, Bool.not_false, List.length_map, e4, e11, e12, e13, e14, e15, e16, e18, e19, hs1, hs2, hs3, hs4, hrd, g2]
            refine callC_at hp ?_ (h1 := .inr (by simp only [go_sem, AV.flat, AV.flatL, Bool.and_self]))
            simp -implicitDefEqProofs (disch := omega) only [go_sem, ↓reduceIte, Nat.reduceEqDiff, Nat.reduceMul, Nat.reduceAdd, Nat.reduceDiv, Nat.reduceBEq, Nat.reduceLeDiff, Int.reduceToNat, Int.reduceNe, Int.reduceEq, Int.reduceLT, Int.reduceLE, Int.reduceBEq, Int.reduceBNe, ne_eq, not_true_eq_false, not_false_eq_true, decide_true, decide_false, Int.cast_ofNat_Int, beq_self_eq_true, eq_self, Bool.true_and, Bool.and_true, Bool.false_and, Bool.and_false, Bool.not_true, Bool.not_false, List.length_map, e4, e11, e12, e13, e14, e15, e16, e18, e19, hs1, hs2, hs3, hs4, hrd, hm8, g2, hrl]
            refine callC_at hq ?_ (h1 := .inr (by simp only [go_sem, AV.flat, AV.flatL, Bool.and_self]))
            simp -implicitDefEqProofs (disch := omega) only [go_sem, ↓reduceIte, Nat.reduceEqDiff, Nat.reduceMul, Nat.reduceAdd, Nat.reduceDiv, Nat.reduceBEq, Nat.reduceLeDiff, Int.reduceToNat, Int.reduceNe, Int.reduceEq, Int.reduceLT, Int.reduceLE, Int.reduceBEq, Int.reduceBNe, ne_eq, not_true_eq_false, not_false_eq_true, decide_true, decide_false, Int.cast_ofNat_Int, beq_self_eq_true, eq_self, Bool.true_and, Bool.and_true, Bool.false_and, Bool.and_false, Bool.not_true, Bool.not_false, List.length_map, e4, e11, e12, e13, e14, e15, e16, e18, e19, hs1, hs2, hs3, hs4, hrd, hm8, g2, hrl, hql]
            refine callC_at hval ?_
            simp -implicitDefEqProofs (disch := omega) only [go_sem, ↓reduceIte, Nat.reduceEqDiff, Nat.reduceMul, Nat.reduceAdd, Nat.reduceDiv, Nat.reduceBEq, Nat.reduceLeDiff, Int.reduceToNat, Int.reduceNe, Int.reduceEq, Int.reduceLT, Int.reduceLE, Int.reduceBEq, Int.reduceBNe, ne_eq, not_true_eq_false, not_false_eq_true, decide_true, decide_false, Int.cast_ofNat_Int, beq_self_eq_true, eq_self, Bool.true_and, Bool.and_true, Bool.false_and, Bool.and_false, Bool.not_true, Bool.not_false, List.length_map, e4, e11, e12, e13, e14, e15, e16, e18, e19, hs1, hs2, hs3, hs4, hrd, hm8, g2, hrl, hql]
            refine loopC_mk (fun n E σ => ∃ i : Nat, i + n = p.length ∧ E 11 = B true ∧ E 15 = I t ∧ E 21 = .own 23070064 2 0 p.length ∧ E 24 = .own 23070256 2 0 p.length ∧ E 27 = I i ∧ σ 23070064 = some ⟨40, 2, p.map HP⟩ ∧ σ 23070256 = some ⟨40, 2, q.map HP⟩) p.length ⟨0, by omega, ?_⟩ ?_
            · simp -implicitDefEqProofs (disch := omega) only [go_sem, ↓reduceIte, Nat.reduceEqDiff, Nat.reduceMul, Nat.reduceAdd, Nat.reduceDiv, Nat.reduceBEq, Nat.reduceLeDiff, Int.reduceToNat, Int.reduceNe, Int.reduceEq, Int.reduceLT, Int.reduceLE, Int.reduceBEq, Int.reduceBNe, ne_eq, not_true_eq_false, not_false_eq_true, decide_true, decide_false, Int.cast_ofNat_Int, beq_self_eq_true, eq_self, Bool.true_and, Bool.and_true, Bool.false_and, Bool.and_false, Bool.not_true, Bool.not_false, List.length_map, e4, e11, e12, e13, e14, e15, e16, e18, e19, hs1, hs2, hs3, hs4, hrd, hm8, g2, hrl, hql]
              trace_state
            · rintro n' E σ ⟨i, hi, f10, f15, f21, f24, f27, ks1, ks2⟩
              simp -implicitDefEqProofs (disch := omega) only [go_sem, ↓reduceIte, Nat.reduceEqDiff, Nat.reduceMul, Nat.reduceAdd, Nat.reduceDiv, Nat.reduceBEq, Nat.reduceLeDiff, Int.reduceToNat, Int.reduceNe, Int.reduceEq, Int.reduceLT, Int.reduceLE, Int.reduceBEq, Int.reduceBNe, ne_eq, not_true_eq_false, not_false_eq_true, decide_true, decide_false, Int.cast_ofNat_Int, beq_self_eq_true, eq_self, Bool.true_and, Bool.and_true, Bool.false_and, Bool.and_false, Bool.not_true, Bool.not_false, List.length_map, f10, f15, f21, f24, f27, ks1, ks2]
              refine branch_mk (fun hb => ?_) (fun hb => ?_)
              · have hgi := hqi i (by omega)
                have hin := hP.here _ (gd_mem p i (by omega))
                have hr : rotF t (gd p i).1 = ((gd p i).1 + t).tmod 8 := if_neg (by omega)
                simp -implicitDefEqProofs (disch := omega) only [go_sem, ↓reduceIte, Nat.reduceEqDiff, Nat.reduceMul, Nat.reduceAdd, Nat.reduceDiv, Nat.reduceBEq, Nat.reduceLeDiff, Int.reduceToNat, Int.reduceNe, Int.reduceEq, Int.reduceLT, Int.reduceLE, Int.reduceBEq, Int.reduceBNe, ne_eq, not_true_eq_false, not_false_eq_true, decide_true, decide_false, Int.cast_ofNat_Int, beq_self_eq_true, eq_self, Bool.true_and, Bool.and_true, Bool.false_and, Bool.and_false, Bool.not_true, Bool.not_false, List.length_map, f10, f15, f21, f24, f27, ks1, ks2, hgi, hr, hql]
                refine againQ_mk (n' - 1) (by omega) ⟨i + 1, by omega, ?_⟩
                simp -implicitDefEqProofs (disch := omega) only [go_sem, ↓reduceIte, Nat.reduceEqDiff, Nat.reduceMul, Nat.reduceAdd, Nat.reduceDiv, Nat.reduceBEq, Nat.reduceLeDiff, Int.reduceToNat, Int.reduceNe, Int.reduceEq, Int.reduceLT, Int.reduceLE, Int.reduceBEq, Int.reduceBNe, ne_eq, not_true_eq_false, not_false_eq_true, decide_true, decide_false, Int.cast_ofNat_Int, beq_self_eq_true, eq_self, Bool.true_and, Bool.and_true, Bool.false_and, Bool.and_false, Bool.not_true, Bool.not_false, List.length_map, f10, f15, f21, f24, f27, ks1, ks2]
                simp
              · simp -implicitDefEqProofs (disch := omega) only [go_sem, ↓reduceIte, Nat.reduceEqDiff, Nat.reduceMul, Nat.reduceAdd, Nat.reduceDiv, Nat.reduceBEq, Nat.reduceLeDiff, Int.reduceToNat, Int.reduceNe, Int.reduceEq, Int.reduceLT, Int.reduceLE, Int.reduceBEq, Int.reduceBNe, ne_eq, not_true_eq_false, not_false_eq_true, decide_true, decide_false, Int.cast_ofNat_Int, beq_self_eq_true, eq_self, Bool.true_and, Bool.and_true, Bool.false_and, Bool.and_false, Bool.not_true, Bool.not_false, List.length_map, f10, f15, f21, f24, f27, ks1, ks2, Try.results10]
          · rw [pathR, if_neg hcan] at hp
            rw [pathR, if_neg (by rw [hmc]; exact hcan)] at hq
            simp -implicitDefEqProofs (disch := omega) only [go_sem, ↓reduceIte, Nat.reduceEqDiff, Nat.reduceMul, Nat.reduceAdd, Nat.reduceDiv, Nat.reduceBEq, Nat.reduceLeDiff, Int.reduceToNat, Int.reduceNe, Int.reduceEq, Int.reduceLT, Int.reduceLE, Int.reduceBEq, Int.reduceBNe, ne_eq, not_true_eq_false, not_false_eq_true, decide_true, decide_false, Int.cast_ofNat_Int, beq_self_eq_true, eq_self, Bool.true_and, Bool.and_true, Bool.false_and, Bool.and_false, Bool.not_true, Bool.not_false, List.length_map, e4, e11, e12, e13, e14, e15, e16, e18, e19, hs1, hs2, hs3, hs4, hrd, g2]
            refine callC_at hp ?_
            simp -implicitDefEqProofs (disch := omega) only [go_sem, ↓reduceIte, Nat.reduceEqDiff, Nat.reduceMul, Nat.reduceAdd, Nat.reduceDiv, Nat.reduceBEq, Nat.reduceLeDiff, Int.reduceToNat, Int.reduceNe, Int.reduceEq, Int.reduceLT, Int.reduceLE, Int.reduceBEq, Int.reduceBNe, ne_eq, not_true_eq_false, not_false_eq_true, decide_true, decide_false, Int.cast_ofNat_Int, beq_self_eq_true, eq_self, Bool.true_and, Bool.and_true, Bool.false_and, Bool.and_false, Bool.not_true, Bool.not_false, List.length_map, e4, e11, e12, e13, e14, e15, e16, e18, e19, hs1, hs2, hs3, hs4, hrd, hm8, g2, hrl]
            refine callC_at hq ?_
            simp -implicitDefEqProofs (disch := omega) only [go_sem, ↓reduceIte, Nat.reduceEqDiff, Nat.reduceMul, Nat.reduceAdd, Nat.reduceDiv, Nat.reduceBEq, Nat.reduceLeDiff, Int.reduceToNat, Int.reduceNe, Int.reduceEq, Int.reduceLT, Int.reduceLE, Int.reduceBEq, Int.reduceBNe, ne_eq, not_true_eq_false, not_false_eq_true, decide_true, decide_false, Int.cast_ofNat_Int, beq_self_eq_true, eq_self, Bool.true_and, Bool.and_true, Bool.false_and, Bool.and_false, Bool.not_true, Bool.not_false, List.length_map, e4, e11, e12, e13, e14, e15, e16, e18, e19, hs1, hs2, hs3, hs4, hrd, hm8, g2, hrl]
            refine callC_at hval ?_
            simp -implicitDefEqProofs (disch := omega) only [go_sem, ↓reduceIte, Nat.reduceEqDiff, Nat.reduceMul, Nat.reduceAdd, Nat.reduceDiv, Nat.reduceBEq, Nat.reduceLeDiff, Int.reduceToNat, Int.reduceNe, Int.reduceEq, Int.reduceLT, Int.reduceLE, Int.reduceBEq, Int.reduceBNe, ne_eq, not_true_eq_false, not_false_eq_true, decide_true, decide_false, Int.cast_ofNat_Int, beq_self_eq_true, eq_self, Bool.true_and, Bool.and_true, Bool.false_and, Bool.and_false, Bool.not_true, Bool.not_false, List.length_map, e4, e11, e12, e13, e14, e15, e16, e18, e19, hs1, hs2, hs3, hs4, hrd, hm8, g2, hrl]
            refine loopC_mk (fun n E σ => E 11 = B true ∧ E 21 = .own 23070064 2 0 0 ∧ E 27 = I 0) 1 ?_ ?_
            · simp -implicitDefEqProofs (disch := omega) only [go_sem, ↓reduceIte, Nat.reduceEqDiff, Nat.reduceMul, Nat.reduceAdd, Nat.reduceDiv, Nat.reduceBEq, Nat.reduceLeDiff, Int.reduceToNat, Int.reduceNe, Int.reduceEq, Int.reduceLT, Int.reduceLE, Int.reduceBEq, Int.reduceBNe, ne_eq, not_true_eq_false, not_false_eq_true, decide_true, decide_false, Int.cast_ofNat_Int, beq_self_eq_true, eq_self, Bool.true_and, Bool.and_true, Bool.false_and, Bool.and_false, Bool.not_true, Bool.not_false, List.length_map, e4, e11, e12, e13, e14, e15, e16, e18, e19, hs1, hs2, hs3, hs4, hrd, hm8, g2, hrl]
            · rintro n' E σ ⟨f11, f21, f27⟩
              simp -implicitDefEqProofs (disch := omega) only [go_sem, ↓reduceIte, Nat.reduceEqDiff, Nat.reduceMul, Nat.reduceAdd, Nat.reduceDiv, Nat.reduceBEq, Nat.reduceLeDiff, Int.reduceToNat, Int.reduceNe, Int.reduceEq, Int.reduceLT, Int.reduceLE, Int.reduceBEq, Int.reduceBNe, ne_eq, not_true_eq_false, not_false_eq_true, decide_true, decide_false, Int.cast_ofNat_Int, beq_self_eq_true, eq_self, Bool.true_and, Bool.and_true, Bool.false_and, Bool.and_false, Bool.not_true, Bool.not_false, List.length_map, f11, f21, f27, Try.results10]
end Go.Proofs.Ytmiahmpobpokmaa

/- Chapter 24, RouteNames: for every input the law returns true, and each argument reads afterwards as it read before. -/
set_option maxRecDepth 100000
namespace Go.Proofs.Ytmiahmpobpokmaa
open Go.Vai Go Go.Proofs

theorem routeNames_lifted (os : Os) (started : os.Started) (H : Type) (enc : TypeId × Value → H) :
    ReturnsInHanded {} Try.checked os 10 .any (Rows.routeNamesSpec.pre6 enc Try.prog Try.f10 [] false) (Rows.routeNamesSpec.post enc Try.prog Try.f10 false true false false) :=
  lifted (C := Try.checked) (tb := 4) (ps := [OS, OS, OI, OI, OI]) own started (by kernel_rfl) Try.func10
    (ChangeSpec.witness6 (enc := enc) (C := Try.checked) false ⟨#[], #[.slice none 0 0, .slice none 0 0, .int .i64 0, .int .i64 0, .int .i64 0], []⟩ 8 (by kernel_rfl) (by kernel_rfl) (by kernel_rfl) (by kernel_rfl))
    laidOut (by kernel_rfl) (by kernel_rfl) (by kernel_rfl) rfl (len_5 fun _ _ _ _ _ => rfl)
    (fun w => ⟨o_ints, o_ints, o_int (by kernel_rfl), o_int (by kernel_rfl), o_int (by kernel_rfl), trivial⟩)
    (allP_5 fun a0 a1 a2 a3 a4 h0 h1 h2 h3 h4 => by
      obtain ⟨x0, hx0, hr0, rfl⟩ := h0
      obtain ⟨x1, hx1, hr1, rfl⟩ := h1
      obtain ⟨x2, hx2, rfl⟩ := h2
      obtain ⟨x3, hx3, rfl⟩ := h3
      obtain ⟨x4, hx4, rfl⟩ := h4
      exact names_ev x0 x1 x2 x3 x4 hx0 hx1 hr0 hr1 hx2 hx3 hx4)
theorem routeNames_holds : Rows.RouteNamesSaid :=
  OpenClaim.holds_of_wide 10 Try.f10 rfl rfl rfl rfl rfl rfl rfl ⟨rfl, rfl, rfl, rfl, rfl⟩ rfl rfl rfl rfl rfl (by kernel_rfl) Try.func10 (by kernel_rfl)
    (of_decide_eq_true (by kernel_rfl)) (by unfold Func.isWrapper; first | (rw [if_pos (by decide +kernel)]; kernel_rfl) | (rw [if_neg (by decide +kernel)]; exact ⟨rfl, rfl⟩))
    (fun os started H enc _ => routeNames_lifted os started H enc)
#print axioms routeNames_holds
end Go.Proofs.Ytmiahmpobpokmaa

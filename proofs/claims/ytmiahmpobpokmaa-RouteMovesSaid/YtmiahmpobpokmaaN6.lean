/- Chapter 24, RouteMoves: for every input the law returns true, and each argument reads afterwards as it read before. -/
import Derived.Test.YtmiahmpobpokmaaKF
/- Chapter 24: a further move. -/
set_option maxRecDepth 100000
set_option linter.unusedSimpArgs false
namespace Go.Proofs.Ytmiahmpobpokmaa
open Go.Vai Go Go.Proofs

theorem madeH_length (x : List Int) : (madeH x).length ≤ 12 := by
  unfold madeH; split
  · simp
  · simp; omega
def mvF (k : List Int) (old to n : Int) : Nat → List Int
  | 0 => k
  | 1 => moveM k old n
  | _ => movedM k old to n
theorem mvF_length (k : List Int) (old to n : Int) (i : Nat) : (mvF k old to n i).length = k.length := by
  match i with
  | 0 => rfl
  | 1 => exact moveM_length ..
  | _ + 2 => exact movedM_length ..

theorem moveM_yes {k : List Int} {z n : Int} (h1 : 0 ≤ z) (h2 : 0 ≤ gd k z.toNat) : moveM k z n = k.set z.toNat n := if_pos ⟨h1, h2⟩
theorem moveM_no {k : List Int} {z n : Int} (h : ¬ (0 ≤ z ∧ 0 ≤ gd k z.toNat)) : moveM k z n = k := if_neg h
set_option maxHeartbeats 4000000 in
theorem moves_ev (x y : List Int) (lag next c : Int) (hx : x.length ≤ 9223372036854775807) (hy : y.length ≤ 9223372036854775807) (hxr : ∀ a ∈ x, R64 a) (hyr : ∀ a ∈ y, R64 a) (hl : R64 lag) (hnx : R64 next) (hc : R64 c) : Ev Try.prog 9 [SL x, SL y, I lag, I next, I c] (B true) := by
  refine ev_of Try.func9 rfl (by kernel_rfl) mo (Nat.le_of_ble_eq_true rfl) ?_
  simp -implicitDefEqProofs (disch := omega) only [go_sem, ↓reduceIte, Nat.reduceEqDiff, Nat.reduceMul, Nat.reduceAdd, Nat.reduceDiv, Nat.reduceBEq, Nat.reduceLeDiff, Int.reduceToNat, Int.reduceNe, Int.reduceEq, Int.reduceLT, Int.reduceLE, Int.reduceBEq, Int.reduceBNe, ne_eq, not_true_eq_false, not_false_eq_true, decide_true, decide_false, Int.cast_ofNat_Int, beq_self_eq_true, eq_self, Bool.true_and, Bool.and_true, Bool.false_and, Bool.and_false, Bool.not_true, Bool.not_false, List.length_map, Try.ntmps9]
  refine callC_at sane_ev ?_
  simp -implicitDefEqProofs (disch := omega) only [go_sem, ↓reduceIte, Nat.reduceEqDiff, Nat.reduceMul, Nat.reduceAdd, Nat.reduceDiv, Nat.reduceBEq, Nat.reduceLeDiff, Int.reduceToNat, Int.reduceNe, Int.reduceEq, Int.reduceLT, Int.reduceLE, Int.reduceBEq, Int.reduceBNe, ne_eq, not_true_eq_false, not_false_eq_true, decide_true, decide_false, Int.cast_ofNat_Int, beq_self_eq_true, eq_self, Bool.true_and, Bool.and_true, Bool.false_and, Bool.and_false, Bool.not_true, Bool.not_false, List.length_map]
  refine callC_at (made_ev x y lag hx hy hxr hyr hl) ?_
  have hv := made_valid x y lag
  have hh := madeH_holders x
  have hlen := madeH_length x
  have hml := madeL_in lag
  generalize hk0 : knownF (madeH x) (madeL lag) y = k0 at *
  generalize madeH x = h at *
  generalize madeL lag = l0 at *
  have h1 := (holdersF_pos hh).1
  have hk8 : k0.length = 8 := by rw [← hk0, knownF_length]
  have hat := holders_at hh
  simp -implicitDefEqProofs (disch := omega) only [go_sem, ↓reduceIte, Nat.reduceEqDiff, Nat.reduceMul, Nat.reduceAdd, Nat.reduceDiv, Nat.reduceBEq, Nat.reduceLeDiff, Int.reduceToNat, Int.reduceNe, Int.reduceEq, Int.reduceLT, Int.reduceLE, Int.reduceBEq, Int.reduceBNe, ne_eq, not_true_eq_false, not_false_eq_true, decide_true, decide_false, Int.cast_ofNat_Int, beq_self_eq_true, eq_self, Bool.true_and, Bool.and_true, Bool.false_and, Bool.and_false, Bool.not_true, Bool.not_false, List.length_map]
  refine branch_join (fun E σ => ∃ (kid : Nat) (k : List Int) (l : Int), (kid = 20972097 ∨ kid = 20972272) ∧ validF h k l = true ∧ l ≤ 9 ∧ E 3 = I next ∧ E 4 = I c ∧ E 12 = .own 20972096 1 0 h.length ∧ E 13 = .own kid 1 0 8 ∧ E 14 = I l ∧
    σ 20972096 = some ⟨3, 1, h.map I⟩ ∧ σ kid = some ⟨3, 1, k.map I⟩) (fun hb => ?_) (fun hb => ?_) ?_
  · simp -implicitDefEqProofs (disch := omega) only [go_sem, ↓reduceIte, Nat.reduceEqDiff, Nat.reduceMul, Nat.reduceAdd, Nat.reduceDiv, Nat.reduceBEq, Nat.reduceLeDiff, Int.reduceToNat, Int.reduceNe, Int.reduceEq, Int.reduceLT, Int.reduceLE, Int.reduceBEq, Int.reduceBNe, ne_eq, not_true_eq_false, not_false_eq_true, decide_true, decide_false, Int.cast_ofNat_Int, beq_self_eq_true, eq_self, Bool.true_and, Bool.and_true, Bool.false_and, Bool.and_false, Bool.not_true, Bool.not_false, List.length_map]
    refine callC_at (known_ev h (l0 - 1) y h1 (by omega) (by omega) (by omega) hy hyr) ?_
    simp -implicitDefEqProofs (disch := omega) only [go_sem, ↓reduceIte, Nat.reduceEqDiff, Nat.reduceMul, Nat.reduceAdd, Nat.reduceDiv, Nat.reduceBEq, Nat.reduceLeDiff, Int.reduceToNat, Int.reduceNe, Int.reduceEq, Int.reduceLT, Int.reduceLE, Int.reduceBEq, Int.reduceBNe, ne_eq, not_true_eq_false, not_false_eq_true, decide_true, decide_false, Int.cast_ofNat_Int, beq_self_eq_true, eq_self, Bool.true_and, Bool.and_true, Bool.false_and, Bool.and_false, Bool.not_true, Bool.not_false, List.length_map]
    refine ⟨20972272, knownF h 9 y, 9, .inr rfl, known_valid hh 9 ⟨by omega, by omega⟩ y, by omega, ?_⟩
    simp -implicitDefEqProofs (disch := omega) only [go_sem, ↓reduceIte, Nat.reduceEqDiff, Nat.reduceMul, Nat.reduceAdd, Nat.reduceDiv, Nat.reduceBEq, Nat.reduceLeDiff, Int.reduceToNat, Int.reduceNe, Int.reduceEq, Int.reduceLT, Int.reduceLE, Int.reduceBEq, Int.reduceBNe, ne_eq, not_true_eq_false, not_false_eq_true, decide_true, decide_false, Int.cast_ofNat_Int, beq_self_eq_true, eq_self, Bool.true_and, Bool.and_true, Bool.false_and, Bool.and_false, Bool.not_true, Bool.not_false, List.length_map, knownF_length]
    rw [hb]
    exact ⟨rfl, rfl⟩
  · refine ⟨20972097, k0, l0, .inl rfl, hv, by omega, ?_⟩
    simp -implicitDefEqProofs (disch := omega) only [go_sem, ↓reduceIte, Nat.reduceEqDiff, Nat.reduceMul, Nat.reduceAdd, Nat.reduceDiv, Nat.reduceBEq, Nat.reduceLeDiff, Int.reduceToNat, Int.reduceNe, Int.reduceEq, Int.reduceLT, Int.reduceLE, Int.reduceBEq, Int.reduceBNe, ne_eq, not_true_eq_false, not_false_eq_true, decide_true, decide_false, Int.cast_ofNat_Int, beq_self_eq_true, eq_self, Bool.true_and, Bool.and_true, Bool.false_and, Bool.and_false, Bool.not_true, Bool.not_false, List.length_map, hk8]
  clear hv hml hk0 hk8 k0 l0 hl hx hxr hy hyr x y lag
  rintro E σ ⟨kid, k, l, hkid, hv, hl9, e3, e4, e12, e13, e14, hs1, hs2⟩
  obtain ⟨g1, g2, g3, g4, g5, g6⟩ := valid_holders hv
  have e0 : ((h.length : Int) - 1).toNat = h.length - 1 := by omega
  have hold := hat (h.length - 1) (by omega)
  obtain ⟨old, hol⟩ : ∃ old, gd h (h.length - 1) = old := ⟨_, rfl⟩
  rw [hol] at hold
  rcases hkid with hkid | hkid
  all_goals
    rw [hkid] at e13 hs2
    simp -implicitDefEqProofs (disch := omega) only [go_sem, ↓reduceIte, Nat.reduceEqDiff, Nat.reduceMul, Nat.reduceAdd, Nat.reduceDiv, Nat.reduceBEq, Nat.reduceLeDiff, Int.reduceToNat, Int.reduceNe, Int.reduceEq, Int.reduceLT, Int.reduceLE, Int.reduceBEq, Int.reduceBNe, ne_eq, not_true_eq_false, not_false_eq_true, decide_true, decide_false, Int.cast_ofNat_Int, beq_self_eq_true, eq_self, Bool.true_and, Bool.and_true, Bool.false_and, Bool.and_false, Bool.not_true, Bool.not_false, List.length_map, e3, e4, e12, e13, e14, hs1, hs2, e0, hol]
    refine callC_at (pick_ev' next 9 hnx (by omega)) ?_
    have hpk := pickF_in (c := next) (n := 9) (by omega)
    simp -implicitDefEqProofs (disch := omega) only [go_sem, ↓reduceIte, Nat.reduceEqDiff, Nat.reduceMul, Nat.reduceAdd, Nat.reduceDiv, Nat.reduceBEq, Nat.reduceLeDiff, Int.reduceToNat, Int.reduceNe, Int.reduceEq, Int.reduceLT, Int.reduceLE, Int.reduceBEq, Int.reduceBNe, ne_eq, not_true_eq_false, not_false_eq_true, decide_true, decide_false, Int.cast_ofNat_Int, beq_self_eq_true, eq_self, Bool.true_and, Bool.and_true, Bool.false_and, Bool.and_false, Bool.not_true, Bool.not_false, List.length_map, e3, e4, e12, e13, e14, hs1, hs2, e0, hol]
    refine branch_join (fun E σ => ∃ to : Int, -1 ≤ to ∧ to ≤ 7 ∧ E 4 = I c ∧ E 12 = .own 20972096 1 0 h.length ∧ E 13 = .own kid 1 0 8 ∧ E 14 = I l ∧ E 15 = I old ∧ E 16 = I to ∧
      σ 20972096 = some ⟨3, 1, h.map I⟩ ∧ σ kid = some ⟨3, 1, k.map I⟩) (fun hb => ?_) (fun hb => ?_) ?_
    · simp -implicitDefEqProofs (disch := omega) only [go_sem, ↓reduceIte, Nat.reduceEqDiff, Nat.reduceMul, Nat.reduceAdd, Nat.reduceDiv, Nat.reduceBEq, Nat.reduceLeDiff, Int.reduceToNat, Int.reduceNe, Int.reduceEq, Int.reduceLT, Int.reduceLE, Int.reduceBEq, Int.reduceBNe, ne_eq, not_true_eq_false, not_false_eq_true, decide_true, decide_false, Int.cast_ofNat_Int, beq_self_eq_true, eq_self, Bool.true_and, Bool.and_true, Bool.false_and, Bool.and_false, Bool.not_true, Bool.not_false, List.length_map, e3, e4, e12, e13, e14, hs1, hs2, hkid]
      refine callC_at (pick_ev' (old + 2) 9 ⟨by omega, by omega⟩ (by omega)) ?_
      have hpk2 := pickF_in (c := old + 2) (n := 9) (by omega)
      simp -implicitDefEqProofs (disch := omega) only [go_sem, ↓reduceIte, Nat.reduceEqDiff, Nat.reduceMul, Nat.reduceAdd, Nat.reduceDiv, Nat.reduceBEq, Nat.reduceLeDiff, Int.reduceToNat, Int.reduceNe, Int.reduceEq, Int.reduceLT, Int.reduceLE, Int.reduceBEq, Int.reduceBNe, ne_eq, not_true_eq_false, not_false_eq_true, decide_true, decide_false, Int.cast_ofNat_Int, beq_self_eq_true, eq_self, Bool.true_and, Bool.and_true, Bool.false_and, Bool.and_false, Bool.not_true, Bool.not_false, List.length_map, e3, e4, e12, e13, e14, hs1, hs2, hkid]
      exact ⟨_, by omega, by omega, rfl⟩
    · simp -implicitDefEqProofs (disch := omega) only [go_sem, ↓reduceIte, Nat.reduceEqDiff, Nat.reduceMul, Nat.reduceAdd, Nat.reduceDiv, Nat.reduceBEq, Nat.reduceLeDiff, Int.reduceToNat, Int.reduceNe, Int.reduceEq, Int.reduceLT, Int.reduceLE, Int.reduceBEq, Int.reduceBNe, ne_eq, not_true_eq_false, not_false_eq_true, decide_true, decide_false, Int.cast_ofNat_Int, beq_self_eq_true, eq_self, Bool.true_and, Bool.and_true, Bool.false_and, Bool.and_false, Bool.not_true, Bool.not_false, List.length_map, e3, e4, e12, e13, e14, hs1, hs2, hkid]
      exact ⟨_, by omega, by omega, rfl⟩
  all_goals
    clear e3 e4 e12 e13 e14 hs1 hs2 hpk E σ
    rintro E σ ⟨to, ht1, ht2, e4, e12, e13, e14, e15, e16, hs1, hs2⟩
    rw [hkid] at e13 hs2
    simp -implicitDefEqProofs (disch := omega) only [go_sem, ↓reduceIte, Nat.reduceEqDiff, Nat.reduceMul, Nat.reduceAdd, Nat.reduceDiv, Nat.reduceBEq, Nat.reduceLeDiff, Int.reduceToNat, Int.reduceNe, Int.reduceEq, Int.reduceLT, Int.reduceLE, Int.reduceBEq, Int.reduceBNe, ne_eq, not_true_eq_false, not_false_eq_true, decide_true, decide_false, Int.cast_ofNat_Int, beq_self_eq_true, eq_self, Bool.true_and, Bool.and_true, Bool.false_and, Bool.and_false, Bool.not_true, Bool.not_false, List.length_map, e4, e12, e13, e14, e15, e16, hs1, hs2, hkid, List.nil_append, g2]
    refine loopC_mk (fun n E σ => ∃ i : Nat, i + n = 2 ∧ E 4 = I c ∧ E 12 = .own 20972096 1 0 h.length ∧ E 13 = .own kid 1 0 8 ∧ E 14 = I l ∧ E 15 = I old ∧ E 16 = I to ∧ E 17 = .own 20972544 1 0 (h.length + 1) ∧ E 18 = .own 20972640 1 0 8 ∧
      E 75 = .own 20972720 1 0 2 ∧ E 76 = I 2 ∧ E 77 = I i ∧ σ 20972096 = some ⟨3, 1, h.map I⟩ ∧ σ kid = some ⟨3, 1, k.map I⟩ ∧ σ 20972544 = some ⟨3, 1, (h ++ [to]).map I⟩ ∧ σ 20972640 = some ⟨3, 1, (mvF k old to h.length i).map I⟩ ∧ σ 20972720 = some ⟨3, 1, [I old, I to]⟩) 2 ⟨0, by omega, ?_⟩ ?_
    · simp -implicitDefEqProofs (disch := omega) only [go_sem, ↓reduceIte, Nat.reduceEqDiff, Nat.reduceMul, Nat.reduceAdd, Nat.reduceDiv, Nat.reduceBEq, Nat.reduceLeDiff, Int.reduceToNat, Int.reduceNe, Int.reduceEq, Int.reduceLT, Int.reduceLE, Int.reduceBEq, Int.reduceBNe, ne_eq, not_true_eq_false, not_false_eq_true, decide_true, decide_false, Int.cast_ofNat_Int, beq_self_eq_true, eq_self, Bool.true_and, Bool.and_true, Bool.false_and, Bool.and_false, Bool.not_true, Bool.not_false, List.length_map, e4, e12, e13, e14, e15, e16, hs1, hs2, hkid, g2, List.nil_append, mvF]
    · clear e4 e12 e13 e14 e15 e16 hs1 hs2 E σ
      rintro n E σ ⟨i, hi, e4, e12, e13, e14, e15, e16, e17, e18, e75, e76, e77, hs1, hs2, hs3, hs4, hs5⟩
      rw [hkid] at e13 hs2
      simp -implicitDefEqProofs (disch := omega) only [go_sem, ↓reduceIte, Nat.reduceEqDiff, Nat.reduceMul, Nat.reduceAdd, Nat.reduceDiv, Nat.reduceBEq, Nat.reduceLeDiff, Int.reduceToNat, Int.reduceNe, Int.reduceEq, Int.reduceLT, Int.reduceLE, Int.reduceBEq, Int.reduceBNe, ne_eq, not_true_eq_false, not_false_eq_true, decide_true, decide_false, Int.cast_ofNat_Int, beq_self_eq_true, eq_self, Bool.true_and, Bool.and_true, Bool.false_and, Bool.and_false, Bool.not_true, Bool.not_false, List.length_map, e4, e12, e13, e14, e15, e16, e17, e18, e75, e76, e77, hs1, hs2, hs3, hs4, hs5]
      refine branch_mk (fun hb => ?_) (fun hb => ?_)
      · have hlm := mvF_length k old to h.length i
        have e5 : ((h.length : Int) + 1 - 1) = h.length := by omega
        rcases (show i = 0 ∨ i = 1 by omega) with rfl | rfl
        · simp -implicitDefEqProofs (disch := omega) only [go_sem, ↓reduceIte, Nat.reduceEqDiff, Nat.reduceMul, Nat.reduceAdd, Nat.reduceDiv, Nat.reduceBEq, Nat.reduceLeDiff, Int.reduceToNat, Int.reduceNe, Int.reduceEq, Int.reduceLT, Int.reduceLE, Int.reduceBEq, Int.reduceBNe, ne_eq, not_true_eq_false, not_false_eq_true, decide_true, decide_false, Int.cast_ofNat_Int, beq_self_eq_true, eq_self, Bool.true_and, Bool.and_true, Bool.false_and, Bool.and_false, Bool.not_true, Bool.not_false, List.length_map, e4, e12, e13, e14, e15, e16, e17, e18, e75, e76, e77, hs1, hs2, hs3, hs4, hs5, g2, hlm, mvF]
          repeat' (first | ((with_reducible refine branch_mk (fun hb => ?_) (fun hb => ?_)) <;> simp -implicitDefEqProofs (disch := omega) only [go_sem, ↓reduceIte, Nat.reduceEqDiff, Nat.reduceMul, Nat.reduceAdd, Nat.reduceDiv, Nat.reduceBEq, Nat.reduceLeDiff, Int.reduceToNat, Int.reduceNe, Int.reduceEq, Int.reduceLT, Int.reduceLE, Int.reduceBEq, Int.reduceBNe, ne_eq, not_true_eq_false, not_false_eq_true, decide_true, decide_false, Int.cast_ofNat_Int, beq_self_eq_true, eq_self, Bool.true_and, Bool.and_true, Bool.false_and, Bool.and_false, Bool.not_true, Bool.not_false, List.length_map, e4, e12, e13, e14, e15, e16, e17, e18, e75, e76, e77, hs1, hs2, hs3, hs4, hs5, g2, hlm, mvF, e5, hb]))
          all_goals
            refine againQ_mk (n - 1) (by omega) ⟨1, by omega, ?_⟩
            simp -implicitDefEqProofs (disch := omega) only [go_sem, ↓reduceIte, Nat.reduceEqDiff, Nat.reduceMul, Nat.reduceAdd, Nat.reduceDiv, Nat.reduceBEq, Nat.reduceLeDiff, Int.reduceToNat, Int.reduceNe, Int.reduceEq, Int.reduceLT, Int.reduceLE, Int.reduceBEq, Int.reduceBNe, ne_eq, not_true_eq_false, not_false_eq_true, decide_true, decide_false, Int.cast_ofNat_Int, beq_self_eq_true, eq_self, Bool.true_and, Bool.and_true, Bool.false_and, Bool.and_false, Bool.not_true, Bool.not_false, List.length_map, e4, e12, e13, e14, e15, e16, e17, e18, e75, e76, e77, hs1, hs2, hs3, hs4, hs5, g2, hlm, mvF, hkid]
          · exact ⟨rfl, by rw [moveM_yes (z := old) (by assumption) (by assumption), show ((h.length + 1 : Nat) : Int) - 1 = h.length from by omega]⟩
          · exact ⟨rfl, by rw [moveM_no (z := old) (by omega)]⟩
          · exact ⟨rfl, by rw [moveM_no (z := old) (by omega)]⟩
        · simp -implicitDefEqProofs (disch := omega) only [go_sem, ↓reduceIte, Nat.reduceEqDiff, Nat.reduceMul, Nat.reduceAdd, Nat.reduceDiv, Nat.reduceBEq, Nat.reduceLeDiff, Int.reduceToNat, Int.reduceNe, Int.reduceEq, Int.reduceLT, Int.reduceLE, Int.reduceBEq, Int.reduceBNe, ne_eq, not_true_eq_false, not_false_eq_true, decide_true, decide_false, Int.cast_ofNat_Int, beq_self_eq_true, eq_self, Bool.true_and, Bool.and_true, Bool.false_and, Bool.and_false, Bool.not_true, Bool.not_false, List.length_map, e4, e12, e13, e14, e15, e16, e17, e18, e75, e76, e77, hs1, hs2, hs3, hs4, hs5, g2, hlm, mvF, moveM_length]
          repeat' (first | ((with_reducible refine branch_mk (fun hb => ?_) (fun hb => ?_)) <;> simp -implicitDefEqProofs (disch := omega) only [go_sem, ↓reduceIte, Nat.reduceEqDiff, Nat.reduceMul, Nat.reduceAdd, Nat.reduceDiv, Nat.reduceBEq, Nat.reduceLeDiff, Int.reduceToNat, Int.reduceNe, Int.reduceEq, Int.reduceLT, Int.reduceLE, Int.reduceBEq, Int.reduceBNe, ne_eq, not_true_eq_false, not_false_eq_true, decide_true, decide_false, Int.cast_ofNat_Int, beq_self_eq_true, eq_self, Bool.true_and, Bool.and_true, Bool.false_and, Bool.and_false, Bool.not_true, Bool.not_false, List.length_map, e4, e12, e13, e14, e15, e16, e17, e18, e75, e76, e77, hs1, hs2, hs3, hs4, hs5, g2, hlm, mvF, moveM_length, e5, hb]))
          all_goals
            refine againQ_mk (n - 1) (by omega) ⟨2, by omega, ?_⟩
            simp -implicitDefEqProofs (disch := omega) only [go_sem, ↓reduceIte, Nat.reduceEqDiff, Nat.reduceMul, Nat.reduceAdd, Nat.reduceDiv, Nat.reduceBEq, Nat.reduceLeDiff, Int.reduceToNat, Int.reduceNe, Int.reduceEq, Int.reduceLT, Int.reduceLE, Int.reduceBEq, Int.reduceBNe, ne_eq, not_true_eq_false, not_false_eq_true, decide_true, decide_false, Int.cast_ofNat_Int, beq_self_eq_true, eq_self, Bool.true_and, Bool.and_true, Bool.false_and, Bool.and_false, Bool.not_true, Bool.not_false, List.length_map, e4, e12, e13, e14, e15, e16, e17, e18, e75, e76, e77, hs1, hs2, hs3, hs4, hs5, g2, hlm, mvF, moveM_length, hkid]
          · exact ⟨rfl, by rw [movedM, moveM_yes (z := to) (by assumption) (by assumption), show ((h.length + 1 : Nat) : Int) - 1 = h.length from by omega]⟩
          · exact ⟨rfl, by rw [movedM, moveM_no (z := to) (by omega)]⟩
          · exact ⟨rfl, by rw [movedM, moveM_no (z := to) (by omega)]⟩
      · obtain rfl : i = 2 := by omega
        have emv : mvF k old to h.length 2 = movedM k old to h.length := rfl
        have hml8 : (movedM k old to h.length).length = 8 := by rw [movedM_length]; exact g2
        rw [emv] at hs4
        simp -implicitDefEqProofs (disch := omega) only [go_sem, ↓reduceIte, Nat.reduceEqDiff, Nat.reduceMul, Nat.reduceAdd, Nat.reduceDiv, Nat.reduceBEq, Nat.reduceLeDiff, Int.reduceToNat, Int.reduceNe, Int.reduceEq, Int.reduceLT, Int.reduceLE, Int.reduceBEq, Int.reduceBNe, ne_eq, not_true_eq_false, not_false_eq_true, decide_true, decide_false, Int.cast_ofNat_Int, beq_self_eq_true, eq_self, Bool.true_and, Bool.and_true, Bool.false_and, Bool.and_false, Bool.not_true, Bool.not_false, List.length_map, e4, e12, e13, e14, e15, e16, e17, e18, e75, e76, e77, hs1, hs2, hs3, hs4, hs5, hkid, g2, hml8]
        have hvm := moved_valid hv hl9 (by omega) hol.symm ⟨ht1, ht2⟩
        have hml := movedM_length k old to h.length
        have hval := valid_ev (h ++ [to]) (movedM k old to h.length) (l + 1) (by simp; omega) (by omega) ⟨by omega, by omega⟩
        rw [hvm] at hval
        refine callC_at hval ?_
        simp -implicitDefEqProofs (disch := omega) only [go_sem, ↓reduceIte, Nat.reduceEqDiff, Nat.reduceMul, Nat.reduceAdd, Nat.reduceDiv, Nat.reduceBEq, Nat.reduceLeDiff, Int.reduceToNat, Int.reduceNe, Int.reduceEq, Int.reduceLT, Int.reduceLE, Int.reduceBEq, Int.reduceBNe, ne_eq, not_true_eq_false, not_false_eq_true, decide_true, decide_false, Int.cast_ofNat_Int, beq_self_eq_true, eq_self, Bool.true_and, Bool.and_true, Bool.false_and, Bool.and_false, Bool.not_true, Bool.not_false, List.length_map, e4, e12, e13, e14, e15, e16, e17, e18, e75, e76, e77, hs1, hs2, hs3, hs4, hs5, hkid, g2, hml8]
        refine callC_at (pick_ev' c 8 hc (by omega)) ?_
        have hd := pickF_in (c := c) (n := 8) (by omega)
        generalize pickF c 8 = d at *
        simp -implicitDefEqProofs (disch := omega) only [go_sem, ↓reduceIte, Nat.reduceEqDiff, Nat.reduceMul, Nat.reduceAdd, Nat.reduceDiv, Nat.reduceBEq, Nat.reduceLeDiff, Int.reduceToNat, Int.reduceNe, Int.reduceEq, Int.reduceLT, Int.reduceLE, Int.reduceBEq, Int.reduceBNe, ne_eq, not_true_eq_false, not_false_eq_true, decide_true, decide_false, Int.cast_ofNat_Int, beq_self_eq_true, eq_self, Bool.true_and, Bool.and_true, Bool.false_and, Bool.and_false, Bool.not_true, Bool.not_false, List.length_map, e4, e12, e13, e14, e15, e16, e17, e18, e75, e76, e77, hs1, hs2, hs3, hs4, hs5, hkid, g2, hml8]
        have hmc := moved_can hv hl9 (by omega) hol.symm ⟨ht1, ht2⟩ d (by omega)
        have hp := path_ev h k l d (by omega) (by omega) ⟨by omega, by omega⟩
        have hq := path_ev (h ++ [to]) (movedM k old to h.length) (l + 1) d (by simp; omega) (by omega) ⟨by omega, by omega⟩
        by_cases hcan : canF h k l d = true
        · have hP := path24 hcan
          have hcan2 := hmc.trans hcan
          have hQ := path24 hcan2
          have hpath := moved_path hv (by omega) hol.symm ⟨ht1, ht2⟩ hcan
          rw [pathR, if_pos hcan] at hp
          rw [pathR, if_pos hcan2] at hq
          clear hcan hcan2 hmc
          generalize (pathF h k d).2 = e at hp hP
          generalize (pathF h k d).1 = p at hp hP hpath
          generalize (pathF (h ++ [to]) (movedM k old to h.length) d).2 = e' at hq hQ
          generalize (pathF (h ++ [to]) (movedM k old to h.length) d).1 = q at hq hQ hpath
          have p1 := hP.short
          have q1 := hQ.short
          refine callC_at hp ?_ (h1 := .inr (by simp only [go_sem, AV.flat, AV.flatL, Bool.and_self]))
          simp -implicitDefEqProofs (disch := omega) only [go_sem, ↓reduceIte, Nat.reduceEqDiff, Nat.reduceMul, Nat.reduceAdd, Nat.reduceDiv, Nat.reduceBEq, Nat.reduceLeDiff, Int.reduceToNat, Int.reduceNe, Int.reduceEq, Int.reduceLT, Int.reduceLE, Int.reduceBEq, Int.reduceBNe, ne_eq, not_true_eq_false, not_false_eq_true, decide_true, decide_false, Int.cast_ofNat_Int, beq_self_eq_true, eq_self, Bool.true_and, Bool.and_true, Bool.false_and, Bool.and_false, Bool.not_true, Bool.not_false, List.length_map, e4, e12, e13, e14, e15, e16, e17, e18, e75, e76, e77, hs1, hs2, hs3, hs4, hs5, hkid, g2, hml8]
          refine callC_at hq ?_ (h1 := .inr (by simp only [go_sem, AV.flat, AV.flatL, Bool.and_self]))
          simp -implicitDefEqProofs (disch := omega) only [go_sem, ↓reduceIte, Nat.reduceEqDiff, Nat.reduceMul, Nat.reduceAdd, Nat.reduceDiv, Nat.reduceBEq, Nat.reduceLeDiff, Int.reduceToNat, Int.reduceNe, Int.reduceEq, Int.reduceLT, Int.reduceLE, Int.reduceBEq, Int.reduceBNe, ne_eq, not_true_eq_false, not_false_eq_true, decide_true, decide_false, Int.cast_ofNat_Int, beq_self_eq_true, eq_self, Bool.true_and, Bool.and_true, Bool.false_and, Bool.and_false, Bool.not_true, Bool.not_false, List.length_map, e4, e12, e13, e14, e15, e16, e17, e18, e75, e76, e77, hs1, hs2, hs3, hs4, hs5, hkid, g2, hml8]
          rcases hpath with ⟨i0, j1, j2, j3, j4, j5⟩ | ⟨rfl, j2⟩
          · refine loopC_mk (fun n E σ => ∃ i : Nat, i + n = q.length ∧ E 15 = I old ∧ E 16 = I to ∧ E 22 = .own 20973280 2 0 p.length ∧ E 25 = .own 20973440 2 0 q.length ∧ E 28 = I i ∧ σ 20973280 = some ⟨40, 2, p.map HP⟩ ∧ σ 20973440 = some ⟨40, 2, q.map HP⟩ ∧ i ≤ i0) q.length ⟨0, by omega, ?_⟩ ?_
            · simp -implicitDefEqProofs (disch := omega) only [go_sem, ↓reduceIte, Nat.reduceEqDiff, Nat.reduceMul, Nat.reduceAdd, Nat.reduceDiv, Nat.reduceBEq, Nat.reduceLeDiff, Int.reduceToNat, Int.reduceNe, Int.reduceEq, Int.reduceLT, Int.reduceLE, Int.reduceBEq, Int.reduceBNe, ne_eq, not_true_eq_false, not_false_eq_true, decide_true, decide_false, Int.cast_ofNat_Int, beq_self_eq_true, eq_self, Bool.true_and, Bool.and_true, Bool.false_and, Bool.and_false, Bool.not_true, Bool.not_false, List.length_map, e4, e12, e13, e14, e15, e16, e17, e18, e75, e76, e77, hs1, hs2, hs3, hs4, hs5, hkid, g2, hml8]
              exact Nat.zero_le _
            · rintro n' E σ ⟨i, hi, f15, f16, f22, f25, f28, ks1, ks2, hii⟩
              simp -implicitDefEqProofs (disch := omega) only [go_sem, ↓reduceIte, Nat.reduceEqDiff, Nat.reduceMul, Nat.reduceAdd, Nat.reduceDiv, Nat.reduceBEq, Nat.reduceLeDiff, Int.reduceToNat, Int.reduceNe, Int.reduceEq, Int.reduceLT, Int.reduceLE, Int.reduceBEq, Int.reduceBNe, ne_eq, not_true_eq_false, not_false_eq_true, decide_true, decide_false, Int.cast_ofNat_Int, beq_self_eq_true, eq_self, Bool.true_and, Bool.and_true, Bool.false_and, Bool.and_false, Bool.not_true, Bool.not_false, List.length_map, f15, f16, f22, f25, f28, ks1, ks2]
              refine branch_mk (fun hb => ?_) (fun hb => ?_)
              · by_cases hlt : i < i0
                · obtain ⟨m1, m2, m3⟩ := j5 i hlt
                  have n1 : ¬ (p.length : Int) ≤ i := by omega
                  simp -implicitDefEqProofs (disch := omega) only [go_sem, ↓reduceIte, Nat.reduceEqDiff, Nat.reduceMul, Nat.reduceAdd, Nat.reduceDiv, Nat.reduceBEq, Nat.reduceLeDiff, Int.reduceToNat, Int.reduceNe, Int.reduceEq, Int.reduceLT, Int.reduceLE, Int.reduceBEq, Int.reduceBNe, ne_eq, not_true_eq_false, not_false_eq_true, decide_true, decide_false, Int.cast_ofNat_Int, beq_self_eq_true, eq_self, Bool.true_and, Bool.and_true, Bool.false_and, Bool.and_false, Bool.not_true, Bool.not_false, List.length_map, f15, f16, f22, f25, f28, ks1, ks2, m1, m2, m3, n1]
                  refine againQ_mk (n' - 1) (by omega) ⟨i + 1, by omega, ?_⟩
                  simp -implicitDefEqProofs (disch := omega) only [go_sem, ↓reduceIte, Nat.reduceEqDiff, Nat.reduceMul, Nat.reduceAdd, Nat.reduceDiv, Nat.reduceBEq, Nat.reduceLeDiff, Int.reduceToNat, Int.reduceNe, Int.reduceEq, Int.reduceLT, Int.reduceLE, Int.reduceBEq, Int.reduceBNe, ne_eq, not_true_eq_false, not_false_eq_true, decide_true, decide_false, Int.cast_ofNat_Int, beq_self_eq_true, eq_self, Bool.true_and, Bool.and_true, Bool.false_and, Bool.and_false, Bool.not_true, Bool.not_false, List.length_map, f15, f16, f22, f25, f28, ks1, ks2]
                  exact ⟨by simp, hlt⟩
                · obtain rfl : i = i0 := by omega
                  have n1 : ¬ (p.length : Int) ≤ i := by omega
                  rcases j3 with j3 | j3
                  · simp -implicitDefEqProofs (disch := omega) only [go_sem, ↓reduceIte, Nat.reduceEqDiff, Nat.reduceMul, Nat.reduceAdd, Nat.reduceDiv, Nat.reduceBEq, Nat.reduceLeDiff, Int.reduceToNat, Int.reduceNe, Int.reduceEq, Int.reduceLT, Int.reduceLE, Int.reduceBEq, Int.reduceBNe, ne_eq, not_true_eq_false, not_false_eq_true, decide_true, decide_false, Int.cast_ofNat_Int, beq_self_eq_true, eq_self, Bool.true_and, Bool.and_true, Bool.false_and, Bool.and_false, Bool.not_true, Bool.not_false, List.length_map, f15, f16, f22, f25, f28, ks1, ks2, j3, j4, n1, Try.results9]
                  · simp -implicitDefEqProofs (disch := omega) only [go_sem, ↓reduceIte, Nat.reduceEqDiff, Nat.reduceMul, Nat.reduceAdd, Nat.reduceDiv, Nat.reduceBEq, Nat.reduceLeDiff, Int.reduceToNat, Int.reduceNe, Int.reduceEq, Int.reduceLT, Int.reduceLE, Int.reduceBEq, Int.reduceBNe, ne_eq, not_true_eq_false, not_false_eq_true, decide_true, decide_false, Int.cast_ofNat_Int, beq_self_eq_true, eq_self, Bool.true_and, Bool.and_true, Bool.false_and, Bool.and_false, Bool.not_true, Bool.not_false, List.length_map, f15, f16, f22, f25, f28, ks1, ks2]
                    repeat' (first | ((with_reducible refine branch_mk (fun hb => ?_) (fun hb => ?_)) <;> simp -implicitDefEqProofs (disch := omega) only [go_sem, ↓reduceIte, Nat.reduceEqDiff, Nat.reduceMul, Nat.reduceAdd, Nat.reduceDiv, Nat.reduceBEq, Nat.reduceLeDiff, Int.reduceToNat, Int.reduceNe, Int.reduceEq, Int.reduceLT, Int.reduceLE, Int.reduceBEq, Int.reduceBNe, ne_eq, not_true_eq_false, not_false_eq_true, decide_true, decide_false, Int.cast_ofNat_Int, beq_self_eq_true, eq_self, Bool.true_and, Bool.and_true, Bool.false_and, Bool.and_false, Bool.not_true, Bool.not_false, List.length_map, f15, f16, f22, f25, f28, ks1, ks2, j3, j4, n1, Try.results9, hb]))
              · exfalso; omega
          · refine loopC_mk (fun n E σ => ∃ i : Nat, i + n = p.length ∧ E 15 = I old ∧ E 16 = I to ∧ E 22 = .own 20973280 2 0 p.length ∧ E 25 = .own 20973440 2 0 p.length ∧ E 28 = I i ∧ σ 20973280 = some ⟨40, 2, p.map HP⟩ ∧ σ 20973440 = some ⟨40, 2, p.map HP⟩) p.length ⟨0, by omega, ?_⟩ ?_
            · simp -implicitDefEqProofs (disch := omega) only [go_sem, ↓reduceIte, Nat.reduceEqDiff, Nat.reduceMul, Nat.reduceAdd, Nat.reduceDiv, Nat.reduceBEq, Nat.reduceLeDiff, Int.reduceToNat, Int.reduceNe, Int.reduceEq, Int.reduceLT, Int.reduceLE, Int.reduceBEq, Int.reduceBNe, ne_eq, not_true_eq_false, not_false_eq_true, decide_true, decide_false, Int.cast_ofNat_Int, beq_self_eq_true, eq_self, Bool.true_and, Bool.and_true, Bool.false_and, Bool.and_false, Bool.not_true, Bool.not_false, List.length_map, e4, e12, e13, e14, e15, e16, e17, e18, e75, e76, e77, hs1, hs2, hs3, hs4, hs5, hkid, g2, hml8]
              trace_state
            · rintro n' E σ ⟨i, hi, f15, f16, f22, f25, f28, ks1, ks2⟩
              simp -implicitDefEqProofs (disch := omega) only [go_sem, ↓reduceIte, Nat.reduceEqDiff, Nat.reduceMul, Nat.reduceAdd, Nat.reduceDiv, Nat.reduceBEq, Nat.reduceLeDiff, Int.reduceToNat, Int.reduceNe, Int.reduceEq, Int.reduceLT, Int.reduceLE, Int.reduceBEq, Int.reduceBNe, ne_eq, not_true_eq_false, not_false_eq_true, decide_true, decide_false, Int.cast_ofNat_Int, beq_self_eq_true, eq_self, Bool.true_and, Bool.and_true, Bool.false_and, Bool.and_false, Bool.not_true, Bool.not_false, List.length_map, f15, f16, f22, f25, f28, ks1, ks2]
              refine branch_mk (fun hb => ?_) (fun hb => ?_)
              · obtain ⟨m2, m3⟩ := j2 _ (gd_mem p i (by omega))
                have n1 : ¬ (p.length : Int) ≤ i := by omega
                simp -implicitDefEqProofs (disch := omega) only [go_sem, ↓reduceIte, Nat.reduceEqDiff, Nat.reduceMul, Nat.reduceAdd, Nat.reduceDiv, Nat.reduceBEq, Nat.reduceLeDiff, Int.reduceToNat, Int.reduceNe, Int.reduceEq, Int.reduceLT, Int.reduceLE, Int.reduceBEq, Int.reduceBNe, ne_eq, not_true_eq_false, not_false_eq_true, decide_true, decide_false, Int.cast_ofNat_Int, beq_self_eq_true, eq_self, Bool.true_and, Bool.and_true, Bool.false_and, Bool.and_false, Bool.not_true, Bool.not_false, List.length_map, f15, f16, f22, f25, f28, ks1, ks2, m2, m3, n1]
                refine againQ_mk (n' - 1) (by omega) ⟨i + 1, by omega, ?_⟩
                simp -implicitDefEqProofs (disch := omega) only [go_sem, ↓reduceIte, Nat.reduceEqDiff, Nat.reduceMul, Nat.reduceAdd, Nat.reduceDiv, Nat.reduceBEq, Nat.reduceLeDiff, Int.reduceToNat, Int.reduceNe, Int.reduceEq, Int.reduceLT, Int.reduceLE, Int.reduceBEq, Int.reduceBNe, ne_eq, not_true_eq_false, not_false_eq_true, decide_true, decide_false, Int.cast_ofNat_Int, beq_self_eq_true, eq_self, Bool.true_and, Bool.and_true, Bool.false_and, Bool.and_false, Bool.not_true, Bool.not_false, List.length_map, f15, f16, f22, f25, f28, ks1, ks2]
                simp
              · simp -implicitDefEqProofs (disch := omega) only [go_sem, ↓reduceIte, Nat.reduceEqDiff, Nat.reduceMul, Nat.reduceAdd, Nat.reduceDiv, Nat.reduceBEq, Nat.reduceLeDiff, Int.reduceToNat, Int.reduceNe, Int.reduceEq, Int.reduceLT, Int.reduceLE, Int.reduceBEq, Int.reduceBNe, ne_eq, not_true_eq_false, not_false_eq_true, decide_true, decide_false, Int.cast_ofNat_Int, beq_self_eq_true, eq_self, Bool.true_and, Bool.and_true, Bool.false_and, Bool.and_false, Bool.not_true, Bool.not_false, List.length_map, f15, f16, f22, f25, f28, ks1, ks2, Try.results9]
        · have hcan2 : ¬ canF (h ++ [to]) (movedM k old to h.length) (l + 1) d = true := by rw [hmc]; exact hcan
          rw [pathR, if_neg hcan] at hp
          rw [pathR, if_neg hcan2] at hq
          refine callC_at hp ?_
          simp -implicitDefEqProofs (disch := omega) only [go_sem, ↓reduceIte, Nat.reduceEqDiff, Nat.reduceMul, Nat.reduceAdd, Nat.reduceDiv, Nat.reduceBEq, Nat.reduceLeDiff, Int.reduceToNat, Int.reduceNe, Int.reduceEq, Int.reduceLT, Int.reduceLE, Int.reduceBEq, Int.reduceBNe, ne_eq, not_true_eq_false, not_false_eq_true, decide_true, decide_false, Int.cast_ofNat_Int, beq_self_eq_true, eq_self, Bool.true_and, Bool.and_true, Bool.false_and, Bool.and_false, Bool.not_true, Bool.not_false, List.length_map, e4, e12, e13, e14, e15, e16, e17, e18, e75, e76, e77, hs1, hs2, hs3, hs4, hs5, hkid, g2, hml8]
          refine callC_at hq ?_
          simp -implicitDefEqProofs (disch := omega) only [go_sem, ↓reduceIte, Nat.reduceEqDiff, Nat.reduceMul, Nat.reduceAdd, Nat.reduceDiv, Nat.reduceBEq, Nat.reduceLeDiff, Int.reduceToNat, Int.reduceNe, Int.reduceEq, Int.reduceLT, Int.reduceLE, Int.reduceBEq, Int.reduceBNe, ne_eq, not_true_eq_false, not_false_eq_true, decide_true, decide_false, Int.cast_ofNat_Int, beq_self_eq_true, eq_self, Bool.true_and, Bool.and_true, Bool.false_and, Bool.and_false, Bool.not_true, Bool.not_false, List.length_map, Try.results9]
end Go.Proofs.Ytmiahmpobpokmaa

/- Chapter 24, RouteMoves: for every input the law returns true, and each argument reads afterwards as it read before. -/
set_option maxRecDepth 100000
namespace Go.Proofs.Ytmiahmpobpokmaa
open Go.Vai Go Go.Proofs

theorem routeMoves_lifted (os : Os) (started : os.Started) (H : Type) (enc : TypeId × Value → H) :
    ReturnsInHanded {} Try.checked os 9 .any (Rows.routeMovesSpec.pre6 enc Try.prog Try.f9 [] false) (Rows.routeMovesSpec.post enc Try.prog Try.f9 false true false false) :=
  lifted (C := Try.checked) (tb := 4) (ps := [OS, OS, OI, OI, OI]) own started (by kernel_rfl) Try.func9
    (ChangeSpec.witness6 (enc := enc) (C := Try.checked) false ⟨#[], #[.slice none 0 0, .slice none 0 0, .int .i64 0, .int .i64 0, .int .i64 0], []⟩ 8 (by kernel_rfl) (by kernel_rfl) (by kernel_rfl) (by kernel_rfl))
    laidOut (by kernel_rfl) (by kernel_rfl) (by kernel_rfl) rfl (len_5 fun _ _ _ _ _ => rfl)
    (fun w => ⟨o_ints, o_ints, o_int (by kernel_rfl), o_int (by kernel_rfl), o_int (by kernel_rfl), trivial⟩)
    (allP_5 fun a0 a1 a2 a3 a4 h0 h1 h2 h3 h4 => by
      obtain ⟨x0, hx0, hr0, rfl⟩ := h0
      obtain ⟨x1, hx1, hr1, rfl⟩ := h1
      obtain ⟨x2, hx2, rfl⟩ := h2
      obtain ⟨x3, hx3, rfl⟩ := h3
      obtain ⟨x4, hx4, rfl⟩ := h4
      exact moves_ev x0 x1 x2 x3 x4 hx0 hx1 hr0 hr1 hx2 hx3 hx4)
theorem routeMoves_holds : Rows.RouteMovesSaid :=
  OpenClaim.holds_of_wide 9 Try.f9 rfl rfl rfl rfl rfl rfl rfl ⟨rfl, rfl, rfl, rfl, rfl⟩ rfl rfl rfl rfl rfl (by kernel_rfl) Try.func9 (by kernel_rfl)
    (of_decide_eq_true (by kernel_rfl)) (by unfold Func.isWrapper; first | (rw [if_pos (by decide +kernel)]; kernel_rfl) | (rw [if_neg (by decide +kernel)]; exact ⟨rfl, rfl⟩))
    (fun os started H enc _ => routeMoves_lifted os started H enc)
#print axioms routeMoves_holds
end Go.Proofs.Ytmiahmpobpokmaa

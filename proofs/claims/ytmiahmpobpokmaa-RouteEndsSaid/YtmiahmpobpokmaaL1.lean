/- Chapter 24: calls end. -/
import Derived.Test.YtmiahmpobpokmaaR12
set_option maxRecDepth 100000
set_option linter.unusedSimpArgs false
namespace Go.Proofs.Ytmiahmpobpokmaa
open Go.Vai Go Go.Proofs

/-- What is known of a path. -/
structure Path24 (h k : List Int) (l d : Int) (p : List (Int × Int)) (e : Int) : Prop where
  ok : PathOK h k d (-1) p e
  here : ∀ x ∈ p, 0 ≤ x.1 ∧ x.1 ≤ 7 ∧ 0 ≤ gd k x.1.toNat ∧ 0 ≤ x.2 ∧ x.2 ≤ (h.length : Int) - 1
  short : (p.length : Int) ≤ l + 2
  once : ∀ m i, m < i → i < p.length → (gd p m).1 ≠ (gd p i).1
  least : (h.length : Int) - 1 - l ≤ gd k d.toNat
  known : 0 ≤ gd k d.toNat
theorem path24 {h k : List Int} {l d : Int} (hcan : canF h k l d = true) : Path24 h k l d (pathF h k d).1 (pathF h k d).2 :=
  ⟨path_ok hcan, path_in hcan, path_short hcan, fun m i hm hi => (path_ok hcan).once hcan (path_in hcan) m i hm hi, (path_least hcan).1, (path_least hcan).2⟩
theorem can_iff {h k : List Int} {l d : Int} (hv : validF h k l = true) (hd : 0 ≤ d ∧ d < 8) : canF h k l d = decide (0 ≤ gd k d.toNat) := by
  simp only [canF, hv, Bool.true_and]
  rw [decide_eq_true (p := 0 ≤ d ∧ d ≤ 7) (by omega), Bool.true_and]

theorem ends_ev (x y : List Int) (lag c : Int) (hx : x.length ≤ 9223372036854775807) (hy : y.length ≤ 9223372036854775807) (hxr : ∀ a ∈ x, R64 a) (hyr : ∀ a ∈ y, R64 a) (hl : R64 lag) (hc : R64 c) : Ev Try.prog 4 [SL x, SL y, I lag, I c] (B true) := by
  refine ev_of Try.func4 rfl (by kernel_rfl) mo (Nat.le_of_ble_eq_true rfl) ?_
  simp -implicitDefEqProofs (disch := omega) only [go_sem, ↓reduceIte, Nat.reduceEqDiff, Nat.reduceMul, Nat.reduceAdd, Nat.reduceDiv, Nat.reduceBEq, Nat.reduceLeDiff, Int.reduceToNat, Int.reduceNe, Int.reduceEq, Int.reduceLT, Int.reduceLE, Int.reduceBEq, Int.reduceBNe, ne_eq, not_true_eq_false, not_false_eq_true, decide_true, decide_false, List.length_map, Try.ntmps4]
  refine callC_at sane_ev ?_
  simp -implicitDefEqProofs (disch := omega) only [go_sem, ↓reduceIte, Nat.reduceEqDiff, Nat.reduceMul, Nat.reduceAdd, Nat.reduceDiv, Nat.reduceBEq, Nat.reduceLeDiff, Int.reduceToNat, Int.reduceNe, Int.reduceEq, Int.reduceLT, Int.reduceLE, Int.reduceBEq, Int.reduceBNe, ne_eq, not_true_eq_false, not_false_eq_true, decide_true, decide_false, List.length_map]
  refine callC_at (made_ev x y lag hx hy hxr hyr hl) ?_
  have hv := made_valid x y lag
  generalize knownF (madeH x) (madeL lag) y = k at *
  generalize madeH x = h at *
  generalize madeL lag = l at *
  simp -implicitDefEqProofs (disch := omega) only [go_sem, ↓reduceIte, Nat.reduceEqDiff, Nat.reduceMul, Nat.reduceAdd, Nat.reduceDiv, Nat.reduceBEq, Nat.reduceLeDiff, Int.reduceToNat, Int.reduceNe, Int.reduceEq, Int.reduceLT, Int.reduceLE, Int.reduceBEq, Int.reduceBNe, ne_eq, not_true_eq_false, not_false_eq_true, decide_true, decide_false, List.length_map]
  refine callC_at (pick_ev' c 8 hc (by omega)) ?_
  have hd := pickF_in (c := c) (n := 8) (by omega)
  generalize pickF c 8 = d at *
  simp -implicitDefEqProofs (disch := omega) only [go_sem, ↓reduceIte, Nat.reduceEqDiff, Nat.reduceMul, Nat.reduceAdd, Nat.reduceDiv, Nat.reduceBEq, Nat.reduceLeDiff, Int.reduceToNat, Int.reduceNe, Int.reduceEq, Int.reduceLT, Int.reduceLE, Int.reduceBEq, Int.reduceBNe, ne_eq, not_true_eq_false, not_false_eq_true, decide_true, decide_false, List.length_map]
  obtain ⟨g1, g2, g3, g4, g5, g6⟩ := valid_holders hv
  have hp := path_ev h k l d (by omega) (by omega) ⟨by omega, by omega⟩
  have hval := valid_ev h k l (by omega) (by omega) ⟨by omega, by omega⟩
  rw [hv] at hval
  have hci := can_iff hv hd
  by_cases hcan : canF h k l d = true
  · rw [pathR, if_pos hcan] at hp
    have hP := path24 hcan
    rw [hci, decide_eq_true_eq] at hcan
    clear hci
    generalize (pathF h k d).2 = e at hp hP
    generalize (pathF h k d).1 = p at hp hP
    have hpos := hP.ok.pos
    have hzero := hP.ok.zero
    have hshort := hP.short
    have hknown := hP.known
    have hfin : 1 ≤ e ∧ e ≤ 3 := by have := hP.ok.fin; omega
    have z1 : (gd p 0).1 = d := by rw [hzero]
    have z2 : (gd p 0).2 = gd k d.toNat := by rw [hzero]; simp only; omega
    refine callC_at hp ?_ (h1 := .inr (by simp only [go_sem, AV.flat, AV.flatL, Bool.and_self]))
    simp -implicitDefEqProofs (disch := omega) only [go_sem, ↓reduceIte, Nat.reduceEqDiff, Nat.reduceMul, Nat.reduceAdd, Nat.reduceDiv, Nat.reduceBEq, Nat.reduceLeDiff, Int.reduceToNat, Int.reduceNe, Int.reduceEq, Int.reduceLT, Int.reduceLE, Int.reduceBEq, Int.reduceBNe, ne_eq, not_true_eq_false, not_false_eq_true, decide_true, decide_false, List.length_map]
    refine callC_at hval ?_
    simp -implicitDefEqProofs (disch := omega) only [go_sem, ↓reduceIte, Nat.reduceEqDiff, Nat.reduceMul, Nat.reduceAdd, Nat.reduceDiv, Nat.reduceBEq, Nat.reduceLeDiff, Int.reduceToNat, Int.reduceNe, Int.reduceEq, Int.reduceLT, Int.reduceLE, Int.reduceBEq, Int.reduceBNe, ne_eq, not_true_eq_false, not_false_eq_true, decide_true, decide_false, List.length_map]
    simp -implicitDefEqProofs (disch := omega) only [go_sem, ↓reduceIte, Nat.reduceEqDiff, Nat.reduceMul, Nat.reduceAdd, Nat.reduceDiv, Nat.reduceBEq, Nat.reduceLeDiff, Int.reduceToNat, Int.reduceNe, Int.reduceEq, Int.reduceLT, Int.reduceLE, Int.reduceBEq, Int.reduceBNe, ne_eq, not_true_eq_false, not_false_eq_true, decide_true, decide_false, List.length_map, hcan]
    repeat' (first | ((with_reducible refine branch_mk (fun hb => ?_) (fun hb => ?_)) <;> simp -implicitDefEqProofs (disch := omega) only [go_sem, ↓reduceIte, Nat.reduceEqDiff, Nat.reduceMul, Nat.reduceAdd, Nat.reduceDiv, Nat.reduceBEq, Nat.reduceLeDiff, Int.reduceToNat, Int.reduceNe, Int.reduceEq, Int.reduceLT, Int.reduceLE, Int.reduceBEq, Int.reduceBNe, ne_eq, not_true_eq_false, not_false_eq_true, decide_true, decide_false, List.length_map, z1, z2, Try.results4, hb]))
    iterate 4 (· exfalso; omega)
    refine loopC_mk (fun n E σ => ∃ i : Nat, i + n = p.length ∧ E 9 = B true ∧ E 14 = .own 10486352 2 0 p.length ∧ E 17 = I i ∧ σ 10486352 = some ⟨40, 2, p.map HP⟩) p.length ⟨0, by omega, ?_⟩ ?_
    · simp -implicitDefEqProofs (disch := omega) only [go_sem, ↓reduceIte, Nat.reduceEqDiff, Nat.reduceMul, Nat.reduceAdd, Nat.reduceDiv, Nat.reduceBEq, Nat.reduceLeDiff, Int.reduceToNat, Int.reduceNe, Int.reduceEq, Int.reduceLT, Int.reduceLE, Int.reduceBEq, Int.reduceBNe, ne_eq, not_true_eq_false, not_false_eq_true, decide_true, decide_false, List.length_map]
      simp
    · rintro n E σ ⟨i, hi, h9, h14, h17, hs⟩
      simp -implicitDefEqProofs (disch := omega) only [go_sem, ↓reduceIte, Nat.reduceEqDiff, Nat.reduceMul, Nat.reduceAdd, Nat.reduceDiv, Nat.reduceBEq, Nat.reduceLeDiff, Int.reduceToNat, Int.reduceNe, Int.reduceEq, Int.reduceLT, Int.reduceLE, Int.reduceBEq, Int.reduceBNe, ne_eq, not_true_eq_false, not_false_eq_true, decide_true, decide_false, List.length_map, h9, h14, h17, hs]
      refine branch_mk (fun hc => ?_) (fun hc => ?_)
      · have e1 : ((i : Int) - 1).toNat = i - 1 := by omega
        have hasc : 0 < i → (gd p (i - 1)).2 ≤ (gd p i).2 := fun h0 => by
          have := hP.ok.asc (i - 1) (by omega)
          rwa [show i - 1 + 1 = i from by omega] at this
        have hstr : 0 < i → i + 1 < p.length → (gd p (i - 1)).2 < (gd p i).2 := fun h0 h1 => by
          have := hP.ok.strict (i - 1) (by omega)
          rwa [show i - 1 + 1 = i from by omega] at this
        simp -implicitDefEqProofs (disch := omega) only [go_sem, ↓reduceIte, Nat.reduceEqDiff, Nat.reduceMul, Nat.reduceAdd, Nat.reduceDiv, Nat.reduceBEq, Nat.reduceLeDiff, Int.reduceToNat, Int.reduceNe, Int.reduceEq, Int.reduceLT, Int.reduceLE, Int.reduceBEq, Int.reduceBNe, ne_eq, not_true_eq_false, not_false_eq_true, decide_true, decide_false, List.length_map, h9, h14, h17, hs, e1]
        repeat' (first | ((with_reducible refine branch_mk (fun hb => ?_) (fun hb => ?_)) <;> simp -implicitDefEqProofs (disch := omega) only [go_sem, ↓reduceIte, Nat.reduceEqDiff, Nat.reduceMul, Nat.reduceAdd, Nat.reduceDiv, Nat.reduceBEq, Nat.reduceLeDiff, Int.reduceToNat, Int.reduceNe, Int.reduceEq, Int.reduceLT, Int.reduceLE, Int.reduceBEq, Int.reduceBNe, ne_eq, not_true_eq_false, not_false_eq_true, decide_true, decide_false, List.length_map, h9, h14, h17, hs, e1, Try.results4, hb]))
        all_goals first
          | (exfalso; omega)
          | (refine loopC_mk (fun n E σ => ∃ m : Nat, m + n = i ∧ E 9 = B true ∧ E 14 = .own 10486352 2 0 p.length ∧ E 17 = I i ∧ E 18 = I m ∧ σ 10486352 = some ⟨40, 2, p.map HP⟩) i ⟨0, by omega, ?_⟩ ?_
             · simp -implicitDefEqProofs (disch := omega) only [go_sem, ↓reduceIte, Nat.reduceEqDiff, Nat.reduceMul, Nat.reduceAdd, Nat.reduceDiv, Nat.reduceBEq, Nat.reduceLeDiff, Int.reduceToNat, Int.reduceNe, Int.reduceEq, Int.reduceLT, Int.reduceLE, Int.reduceBEq, Int.reduceBNe, ne_eq, not_true_eq_false, not_false_eq_true, decide_true, decide_false, List.length_map, h9, h14, h17, hs]
               simp
             · clear h9 h14 h17 hs
               rintro n' E σ ⟨m, hm, h9, h14, h17, h18, hs⟩
               simp -implicitDefEqProofs (disch := omega) only [go_sem, ↓reduceIte, Nat.reduceEqDiff, Nat.reduceMul, Nat.reduceAdd, Nat.reduceDiv, Nat.reduceBEq, Nat.reduceLeDiff, Int.reduceToNat, Int.reduceNe, Int.reduceEq, Int.reduceLT, Int.reduceLE, Int.reduceBEq, Int.reduceBNe, ne_eq, not_true_eq_false, not_false_eq_true, decide_true, decide_false, List.length_map, h9, h14, h17, h18, hs]
               refine branch_mk (fun hd => ?_) (fun hd => ?_)
               · have ho := hP.once m i (by omega) (by omega)
                 simp -implicitDefEqProofs (disch := omega) only [go_sem, ↓reduceIte, Nat.reduceEqDiff, Nat.reduceMul, Nat.reduceAdd, Nat.reduceDiv, Nat.reduceBEq, Nat.reduceLeDiff, Int.reduceToNat, Int.reduceNe, Int.reduceEq, Int.reduceLT, Int.reduceLE, Int.reduceBEq, Int.reduceBNe, ne_eq, not_true_eq_false, not_false_eq_true, decide_true, decide_false, List.length_map, h9, h14, h17, h18, hs, ho]
                 refine againQ_mk (n' - 1) (by omega) ⟨m + 1, by omega, ?_⟩
                 simp -implicitDefEqProofs (disch := omega) only [go_sem, ↓reduceIte, Nat.reduceEqDiff, Nat.reduceMul, Nat.reduceAdd, Nat.reduceDiv, Nat.reduceBEq, Nat.reduceLeDiff, Int.reduceToNat, Int.reduceNe, Int.reduceEq, Int.reduceLT, Int.reduceLE, Int.reduceBEq, Int.reduceBNe, ne_eq, not_true_eq_false, not_false_eq_true, decide_true, decide_false, List.length_map, h9, h14, h17, h18, hs]
                 simp
               · simp -implicitDefEqProofs (disch := omega) only [go_sem, ↓reduceIte, Nat.reduceEqDiff, Nat.reduceMul, Nat.reduceAdd, Nat.reduceDiv, Nat.reduceBEq, Nat.reduceLeDiff, Int.reduceToNat, Int.reduceNe, Int.reduceEq, Int.reduceLT, Int.reduceLE, Int.reduceBEq, Int.reduceBNe, ne_eq, not_true_eq_false, not_false_eq_true, decide_true, decide_false, List.length_map, h9, h14, h17, h18, hs]
                 refine againQ_mk (n - 1) (by omega) ⟨i + 1, by omega, ?_⟩
                 simp -implicitDefEqProofs (disch := omega) only [go_sem, ↓reduceIte, Nat.reduceEqDiff, Nat.reduceMul, Nat.reduceAdd, Nat.reduceDiv, Nat.reduceBEq, Nat.reduceLeDiff, Int.reduceToNat, Int.reduceNe, Int.reduceEq, Int.reduceLT, Int.reduceLE, Int.reduceBEq, Int.reduceBNe, ne_eq, not_true_eq_false, not_false_eq_true, decide_true, decide_false, List.length_map, h9, h14, h17, h18, hs]
                 simp)
      · simp -implicitDefEqProofs (disch := omega) only [go_sem, ↓reduceIte, Nat.reduceEqDiff, Nat.reduceMul, Nat.reduceAdd, Nat.reduceDiv, Nat.reduceBEq, Nat.reduceLeDiff, Int.reduceToNat, Int.reduceNe, Int.reduceEq, Int.reduceLT, Int.reduceLE, Int.reduceBEq, Int.reduceBNe, ne_eq, not_true_eq_false, not_false_eq_true, decide_true, decide_false, List.length_map, h9, h14, h17, hs, Try.results4]
  · rw [pathR, if_neg hcan] at hp
    have hn : ¬ 0 ≤ gd k d.toNat := by rw [hci] at hcan; simpa using hcan
    refine callC_at hp ?_
    simp -implicitDefEqProofs (disch := omega) only [go_sem, ↓reduceIte, Nat.reduceEqDiff, Nat.reduceMul, Nat.reduceAdd, Nat.reduceDiv, Nat.reduceBEq, Nat.reduceLeDiff, Int.reduceToNat, Int.reduceNe, Int.reduceEq, Int.reduceLT, Int.reduceLE, Int.reduceBEq, Int.reduceBNe, ne_eq, not_true_eq_false, not_false_eq_true, decide_true, decide_false, List.length_map]
    refine callC_at hval ?_
    simp -implicitDefEqProofs (disch := omega) only [go_sem, ↓reduceIte, Nat.reduceEqDiff, Nat.reduceMul, Nat.reduceAdd, Nat.reduceDiv, Nat.reduceBEq, Nat.reduceLeDiff, Int.reduceToNat, Int.reduceNe, Int.reduceEq, Int.reduceLT, Int.reduceLE, Int.reduceBEq, Int.reduceBNe, ne_eq, not_true_eq_false, not_false_eq_true, decide_true, decide_false, List.length_map, hn, Int.natCast_zero, Try.results4]
end Go.Proofs.Ytmiahmpobpokmaa

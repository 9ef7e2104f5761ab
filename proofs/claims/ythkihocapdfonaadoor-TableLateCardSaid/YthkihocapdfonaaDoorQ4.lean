/- Chapter 23, TableLate: a switch that is late knows a version between two times. Conditions: the package variable digest.round reads as the program's text lays it (tied). -/
import Derived.Test.YthkihocapdfonaaDoorKH
set_option linter.unusedVariables false
set_option linter.unusedSimpArgs false
set_option maxRecDepth 100000
namespace Go.Proofs.YthkihocapdfonaaDoor
open Go.Vai Go Go.Proofs
open Nat (reduceEqDiff reduceMul reduceAdd reduceDiv reduceLeDiff)
open Int (reduceToNat reduceNe reduceEq reduceLT reduceLE)
set_option maxHeartbeats 2000000 in
theorem late_ev (x : List Q4) (t lag less version which number : Int) (hn : x.length ≤ 9223372036854775807) (hx : ∀ q ∈ x, q.ok) (ht0 : R64 t) (hlag : R64 lag) (hless : R64 less) (hv : R64 version) (hw : R64 which) (hnn : R64 number) : Ev Tryd.prog 6 [QL x, I t, I lag, I less, I version, I which, I number] (B true) := by
  have c0 := made_ev x hx hn
  have ht := madeF_valid x
  generalize madeF x = l at *
  have h40 := len40 ht
  have cn := near_ev l which number (by omega) (validT_nb ht) hw hnn
  have hin := nearF_in l which number
  generalize nearF l which number = n at *
  have cp1 := pick_ev t 60 ht0 (by omega)
  have hp1 := pickF_in (c := t) (n := 60) (by omega)
  generalize pickF t 60 = T at *
  have cp2 := pick_ev lag 30 hlag (by omega)
  have hp2 := pickF_in (c := lag) (n := 30) (by omega)
  generalize pickF lag 30 = G at *
  have cp3 := pick_ev less (G + 1) hless (by omega)
  have hp3 := pickF_in (c := less) (n := G + 1) (by omega)
  generalize pickF less (G + 1) = G2 at *
  have ck1 := known_at ht (t := T) (lag := G) (by omega) (by omega)
  have ck2 := known_at ht (t := T) (lag := G2) (by omega) (by omega)
  have ck3 := known_at ht (t := T) (lag := 0) (by omega) (by omega)
  have cv := version_at ht (t := T) (by omega)
  have m1 : atF l (T - G) ≤ atF l T := atF_mono l (by omega)
  have m2 : atF l (T - G) ≤ atF l (T - G2) := atF_mono l (by omega)
  have m3 := atF_le l T
  have lt1 := atF_lt l T
  have ge1 := fun i h => atF_ge (i := i) (validT_iff.1 ht).2.1 (T - G) h
  rw [show (T : Int) - 0 = T by omega] at ck3
  obtain ⟨a, ea⟩ : ∃ a, atF l (T - G) = a := ⟨_, rfl⟩
  obtain ⟨b, eb⟩ : ∃ b, atF l T = b := ⟨_, rfl⟩
  obtain ⟨c, ec⟩ : ∃ c, atF l (T - G2) = c := ⟨_, rfl⟩
  rw [ea] at ck1 m1 m2 ge1
  rw [eb] at ck1 ck2 ck3 cv m1 m3 lt1
  rw [ec] at ck2 m2
  have cp4 := pick_ev version ((b : Int) - a + 1) hv (by omega)
  have hp4 := pickF_in (c := version) (n := (b : Int) - a + 1) (by omega)
  obtain ⟨d, ed⟩ : ∃ d : Nat, pickF version ((b : Int) - a + 1) = d := ⟨_, (Int.toNat_of_nonneg hp4.1).symm⟩
  rw [ed] at cp4 hp4
  have cb := between_at ht (a := a) (b := b) (by omega) (by omega) hin
  have ch := held_at ht (v := a + d) (by omega) hin
  rw [Int.natCast_add] at ch
  have hmem := (betF_mem ht (n := n) (a := a) (b := b) (by omega) (heldV l n (a + d))).2 ⟨a + d, by omega, by omega, rfl⟩
  have hbl : (betF l n a b).length ≤ 9 := by
    unfold betF; exact Nat.le_trans (List.length_filter_le _ _) (by simp [crs])
  generalize betF l n a b = who at *
  have hw2 := heldV_in ht n (v := a + d) (by omega)
  generalize heldV l n (a + d) = hd at *
  refine ev_of Tryd.func6 rfl (by kernel_rfl) mo (Nat.le_of_ble_eq_true rfl) ?_
  simp -implicitDefEqProofs (disch := omega) only [go_sem, ↓reduceIte, reduceEqDiff, reduceMul, reduceAdd, reduceDiv, Nat.reduceBEq, reduceLeDiff, reduceToNat, reduceNe, reduceEq, reduceLT, reduceLE, Int.reduceBEq, Int.reduceBNe, Tryd.ntmps6]
  refine callC_at sane_ev ?_
  simp -implicitDefEqProofs (disch := omega) only [go_sem, ↓reduceIte, reduceEqDiff, reduceMul, reduceAdd, reduceDiv, Nat.reduceBEq, reduceLeDiff, reduceToNat, reduceNe, reduceEq, reduceLT, reduceLE, Int.reduceBEq, Int.reduceBNe]
  refine callC_at c0 ?_
  simp -implicitDefEqProofs (disch := omega) only [go_sem, ↓reduceIte, reduceEqDiff, reduceMul, reduceAdd, reduceDiv, Nat.reduceBEq, reduceLeDiff, reduceToNat, reduceNe, reduceEq, reduceLT, reduceLE, Int.reduceBEq, Int.reduceBNe]
  refine callC_at cp1 ?_
  simp -implicitDefEqProofs (disch := omega) only [go_sem, ↓reduceIte, reduceEqDiff, reduceMul, reduceAdd, reduceDiv, Nat.reduceBEq, reduceLeDiff, reduceToNat, reduceNe, reduceEq, reduceLT, reduceLE, Int.reduceBEq, Int.reduceBNe]
  refine callC_at cp2 ?_
  simp -implicitDefEqProofs (disch := omega) only [go_sem, ↓reduceIte, reduceEqDiff, reduceMul, reduceAdd, reduceDiv, Nat.reduceBEq, reduceLeDiff, reduceToNat, reduceNe, reduceEq, reduceLT, reduceLE, Int.reduceBEq, Int.reduceBNe]
  refine callC_at ck1 ?_
  simp -implicitDefEqProofs (disch := omega) only [go_sem, ↓reduceIte, reduceEqDiff, reduceMul, reduceAdd, reduceDiv, Nat.reduceBEq, reduceLeDiff, reduceToNat, reduceNe, reduceEq, reduceLT, reduceLE, Int.reduceBEq, Int.reduceBNe]
  refine callC_at cp3 ?_
  simp -implicitDefEqProofs (disch := omega) only [go_sem, ↓reduceIte, reduceEqDiff, reduceMul, reduceAdd, reduceDiv, Nat.reduceBEq, reduceLeDiff, reduceToNat, reduceNe, reduceEq, reduceLT, reduceLE, Int.reduceBEq, Int.reduceBNe]
  refine callC_at ck2 ?_
  simp -implicitDefEqProofs (disch := omega) only [go_sem, ↓reduceIte, reduceEqDiff, reduceMul, reduceAdd, reduceDiv, Nat.reduceBEq, reduceLeDiff, reduceToNat, reduceNe, reduceEq, reduceLT, reduceLE, Int.reduceBEq, Int.reduceBNe]
  refine callC_at ck3 ?_
  simp -implicitDefEqProofs (disch := omega) only [go_sem, ↓reduceIte, reduceEqDiff, reduceMul, reduceAdd, reduceDiv, Nat.reduceBEq, reduceLeDiff, reduceToNat, reduceNe, reduceEq, reduceLT, reduceLE, Int.reduceBEq, Int.reduceBNe]
  refine callC_at cv ?_
  simp -implicitDefEqProofs (disch := omega) only [go_sem, ↓reduceIte, reduceEqDiff, reduceMul, reduceAdd, reduceDiv, Nat.reduceBEq, reduceLeDiff, reduceToNat, reduceNe, reduceEq, reduceLT, reduceLE, Int.reduceBEq, Int.reduceBNe]
  refine branch_r (by omega) ?_
  simp -implicitDefEqProofs (disch := omega) only [go_sem, ↓reduceIte, reduceEqDiff, reduceMul, reduceAdd, reduceDiv, Nat.reduceBEq, reduceLeDiff, reduceToNat, reduceNe, reduceEq, reduceLT, reduceLE, Int.reduceBEq, Int.reduceBNe]
  refine branch_r (by omega) ?_
  simp -implicitDefEqProofs (disch := omega) only [go_sem, ↓reduceIte, reduceEqDiff, reduceMul, reduceAdd, reduceDiv, Nat.reduceBEq, reduceLeDiff, reduceToNat, reduceNe, reduceEq, reduceLT, reduceLE, Int.reduceBEq, Int.reduceBNe]
  refine branch_r (by omega) ?_
  simp -implicitDefEqProofs (disch := omega) only [go_sem, ↓reduceIte, reduceEqDiff, reduceMul, reduceAdd, reduceDiv, Nat.reduceBEq, reduceLeDiff, reduceToNat, reduceNe, reduceEq, reduceLT, reduceLE, Int.reduceBEq, Int.reduceBNe]
  refine branch_r (by omega) ?_
  simp -implicitDefEqProofs (disch := omega) only [go_sem, ↓reduceIte, reduceEqDiff, reduceMul, reduceAdd, reduceDiv, Nat.reduceBEq, reduceLeDiff, reduceToNat, reduceNe, reduceEq, reduceLT, reduceLE, Int.reduceBEq, Int.reduceBNe]
  have e1 : ((b : Int) - a + 1) = b - a + 1 := rfl
  refine callC_at cp4 ?_
  simp -implicitDefEqProofs (disch := omega) only [go_sem, ↓reduceIte, reduceEqDiff, reduceMul, reduceAdd, reduceDiv, Nat.reduceBEq, reduceLeDiff, reduceToNat, reduceNe, reduceEq, reduceLT, reduceLE, Int.reduceBEq, Int.reduceBNe]
  refine loopC_mk (fun k E σ => ∃ i : Nat, i + k = l.length ∧ E 5 = I which ∧ E 6 = I number ∧ E 15 = UPS l ∧ E 16 = I T ∧ E 17 = I G ∧ E 18 = I a ∧ E 19 = I b ∧ E 29 = I ((a : Int) + d) ∧ E 30 = I i) l.length ⟨0, by omega, ?_⟩ ?_
  · simp -implicitDefEqProofs (disch := omega) only [go_sem, ↓reduceIte, reduceEqDiff, reduceMul, reduceAdd, reduceDiv, Nat.reduceBEq, reduceLeDiff, reduceToNat, reduceNe, reduceEq, reduceLT, reduceLE, Int.reduceBEq, Int.reduceBNe]
    rfl
  rintro k E σ ⟨i, hk, e5, e6, e15, e16, e17, e18, e19, e29, e30⟩
  simp -implicitDefEqProofs (disch := omega) only [go_sem, ↓reduceIte, reduceEqDiff, reduceMul, reduceAdd, reduceDiv, Nat.reduceBEq, reduceLeDiff, reduceToNat, reduceNe, reduceEq, reduceLT, reduceLE, Int.reduceBEq, Int.reduceBNe, e5, e6, e15, e16, e17, e18, e19, e29, e30]
  refine branch_mk (fun hc => ?_) (fun hc => ?_)
  · have g1 := lt1 i
    have g2 := ge1 i
    simp -implicitDefEqProofs (disch := omega) only [go_sem, ↓reduceIte, reduceEqDiff, reduceMul, reduceAdd, reduceDiv, Nat.reduceBEq, reduceLeDiff, reduceToNat, reduceNe, reduceEq, reduceLT, reduceLE, Int.reduceBEq, Int.reduceBNe, e5, e6, e15, e16, e17, e18, e19, e29, e30]
    refine branch_mk (fun h1 => ?_) (fun h1 => ?_)
    · simp -implicitDefEqProofs (disch := omega) only [go_sem, ↓reduceIte, reduceEqDiff, reduceMul, reduceAdd, reduceDiv, Nat.reduceBEq, reduceLeDiff, reduceToNat, reduceNe, reduceEq, reduceLT, reduceLE, Int.reduceBEq, Int.reduceBNe, e5, e6, e15, e16, e17, e18, e19, e29, e30]
      refine branch_r (by omega) ?_
      simp -implicitDefEqProofs (disch := omega) only [go_sem, ↓reduceIte, reduceEqDiff, reduceMul, reduceAdd, reduceDiv, Nat.reduceBEq, reduceLeDiff, reduceToNat, reduceNe, reduceEq, reduceLT, reduceLE, Int.reduceBEq, Int.reduceBNe, e5, e6, e15, e16, e17, e18, e19, e29, e30]
      refine branch_r (by omega) ?_
      simp -implicitDefEqProofs (disch := omega) only [go_sem, ↓reduceIte, reduceEqDiff, reduceMul, reduceAdd, reduceDiv, Nat.reduceBEq, reduceLeDiff, reduceToNat, reduceNe, reduceEq, reduceLT, reduceLE, Int.reduceBEq, Int.reduceBNe, e5, e6, e15, e16, e17, e18, e19, e29, e30]
      refine againQ_mk (l.length - (i + 1)) (by omega) ⟨i + 1, by omega, ?_⟩
      simp -implicitDefEqProofs (disch := omega) only [go_sem, ↓reduceIte, reduceEqDiff, reduceMul, reduceAdd, reduceDiv, Nat.reduceBEq, reduceLeDiff, reduceToNat, reduceNe, reduceEq, reduceLT, reduceLE, Int.reduceBEq, Int.reduceBNe, e5, e6, e15, e16, e17, e18, e19, e29, e30]
      rfl
    · simp -implicitDefEqProofs (disch := omega) only [go_sem, ↓reduceIte, reduceEqDiff, reduceMul, reduceAdd, reduceDiv, Nat.reduceBEq, reduceLeDiff, reduceToNat, reduceNe, reduceEq, reduceLT, reduceLE, Int.reduceBEq, Int.reduceBNe, e5, e6, e15, e16, e17, e18, e19, e29, e30]
      refine branch_mk (fun h2 => ?_) (fun h2 => ?_)
      · simp -implicitDefEqProofs (disch := omega) only [go_sem, ↓reduceIte, reduceEqDiff, reduceMul, reduceAdd, reduceDiv, Nat.reduceBEq, reduceLeDiff, reduceToNat, reduceNe, reduceEq, reduceLT, reduceLE, Int.reduceBEq, Int.reduceBNe, e5, e6, e15, e16, e17, e18, e19, e29, e30]
        refine branch_r (by omega) ?_
        simp -implicitDefEqProofs (disch := omega) only [go_sem, ↓reduceIte, reduceEqDiff, reduceMul, reduceAdd, reduceDiv, Nat.reduceBEq, reduceLeDiff, reduceToNat, reduceNe, reduceEq, reduceLT, reduceLE, Int.reduceBEq, Int.reduceBNe, e5, e6, e15, e16, e17, e18, e19, e29, e30]
        refine againQ_mk (l.length - (i + 1)) (by omega) ⟨i + 1, by omega, ?_⟩
        simp -implicitDefEqProofs (disch := omega) only [go_sem, ↓reduceIte, reduceEqDiff, reduceMul, reduceAdd, reduceDiv, Nat.reduceBEq, reduceLeDiff, reduceToNat, reduceNe, reduceEq, reduceLT, reduceLE, Int.reduceBEq, Int.reduceBNe, e5, e6, e15, e16, e17, e18, e19, e29, e30]
        rfl
      · simp -implicitDefEqProofs (disch := omega) only [go_sem, ↓reduceIte, reduceEqDiff, reduceMul, reduceAdd, reduceDiv, Nat.reduceBEq, reduceLeDiff, reduceToNat, reduceNe, reduceEq, reduceLT, reduceLE, Int.reduceBEq, Int.reduceBNe, e5, e6, e15, e16, e17, e18, e19, e29, e30]
        refine againQ_mk (l.length - (i + 1)) (by omega) ⟨i + 1, by omega, ?_⟩
        simp -implicitDefEqProofs (disch := omega) only [go_sem, ↓reduceIte, reduceEqDiff, reduceMul, reduceAdd, reduceDiv, Nat.reduceBEq, reduceLeDiff, reduceToNat, reduceNe, reduceEq, reduceLT, reduceLE, Int.reduceBEq, Int.reduceBNe, e5, e6, e15, e16, e17, e18, e19, e29, e30]
        rfl
  · simp -implicitDefEqProofs (disch := omega) only [go_sem, ↓reduceIte, reduceEqDiff, reduceMul, reduceAdd, reduceDiv, Nat.reduceBEq, reduceLeDiff, reduceToNat, reduceNe, reduceEq, reduceLT, reduceLE, Int.reduceBEq, Int.reduceBNe, e5, e6, e15, e16, e17, e18, e19, e29, e30]
    refine callC_at cn ?_
    simp -implicitDefEqProofs (disch := omega) only [go_sem, ↓reduceIte, reduceEqDiff, reduceMul, reduceAdd, reduceDiv, Nat.reduceBEq, reduceLeDiff, reduceToNat, reduceNe, reduceEq, reduceLT, reduceLE, Int.reduceBEq, Int.reduceBNe, e5, e6, e15, e16, e17, e18, e19, e29, e30]
    refine callC_at cb ?_
    simp -implicitDefEqProofs (disch := omega) only [go_sem, ↓reduceIte, reduceEqDiff, reduceMul, reduceAdd, reduceDiv, Nat.reduceBEq, reduceLeDiff, reduceToNat, reduceNe, reduceEq, reduceLT, reduceLE, Int.reduceBEq, Int.reduceBNe, e5, e6, e15, e16, e17, e18, e19, e29, e30]
    refine callC_at ch ?_
    simp -implicitDefEqProofs (disch := omega) only [go_sem, ↓reduceIte, reduceEqDiff, reduceMul, reduceAdd, reduceDiv, Nat.reduceBEq, reduceLeDiff, reduceToNat, reduceNe, reduceEq, reduceLT, reduceLE, Int.reduceBEq, Int.reduceBNe, e5, e6, e15, e16, e17, e18, e19, e29, e30]
    refine loopC_mk (fun k E σ => ∃ j : Nat, j + k = who.length ∧ E 32 = SL who ∧ E 33 = I 0 ∧ E 34 = I hd ∧ E 35 = I 0 ∧ E 36 = B (decide (hd ∈ who.take j)) ∧ E 37 = I j) who.length ⟨0, by omega, ?_⟩ ?_
    · simp -implicitDefEqProofs (disch := omega) only [go_sem, ↓reduceIte, reduceEqDiff, reduceMul, reduceAdd, reduceDiv, Nat.reduceBEq, reduceLeDiff, reduceToNat, reduceNe, reduceEq, reduceLT, reduceLE, Int.reduceBEq, Int.reduceBNe]
      rfl
    clear e5 e6 e15 e16 e17 e18 e19 e29 e30 E σ k hk
    rintro k E σ ⟨j, hk, e32, e33, e34, e35, e36, e37⟩
    simp -implicitDefEqProofs (disch := omega) only [go_sem, ↓reduceIte, reduceEqDiff, reduceMul, reduceAdd, reduceDiv, Nat.reduceBEq, reduceLeDiff, reduceToNat, reduceNe, reduceEq, reduceLT, reduceLE, Int.reduceBEq, Int.reduceBNe, e32, e33, e34, e35, e36, e37]
    refine branch_mk (fun hc => ?_) (fun hc => ?_)
    · have hj : j < who.length := by omega
      have hs : decide (hd ∈ who.take (j + 1)) = (decide (hd ∈ who.take j) || decide (gd who j = hd)) := by
        rw [take_succ' who j hj]
        simp [eq_comm]
      simp -implicitDefEqProofs (disch := omega) only [go_sem, ↓reduceIte, reduceEqDiff, reduceMul, reduceAdd, reduceDiv, Nat.reduceBEq, reduceLeDiff, reduceToNat, reduceNe, reduceEq, reduceLT, reduceLE, Int.reduceBEq, Int.reduceBNe, e32, e33, e34, e35, e36, e37]
      refine branch_mk (fun h1 => ?_) (fun h1 => ?_)
      all_goals
        simp -implicitDefEqProofs (disch := omega) only [go_sem, ↓reduceIte, reduceEqDiff, reduceMul, reduceAdd, reduceDiv, Nat.reduceBEq, reduceLeDiff, reduceToNat, reduceNe, reduceEq, reduceLT, reduceLE, Int.reduceBEq, Int.reduceBNe, e32, e33, e34, e35, e36, e37]
        refine againQ_mk (who.length - (j + 1)) (by omega) ⟨j + 1, by omega, ?_⟩
        simp -implicitDefEqProofs (disch := omega) only [go_sem, ↓reduceIte, reduceEqDiff, reduceMul, reduceAdd, reduceDiv, Nat.reduceBEq, reduceLeDiff, reduceToNat, reduceNe, reduceEq, reduceLT, reduceLE, Int.reduceBEq, Int.reduceBNe, e32, e33, e34, e35, e36, e37, hs, h1, decide_true, decide_false, Bool.true_or, Bool.false_or]
        first | rfl | exact ⟨rfl, rfl⟩
    · obtain rfl : j = who.length := by omega
      rw [List.take_length] at e36
      simp -implicitDefEqProofs (disch := omega) only [go_sem, ↓reduceIte, reduceEqDiff, reduceMul, reduceAdd, reduceDiv, Nat.reduceBEq, reduceLeDiff, reduceToNat, reduceNe, reduceEq, reduceLT, reduceLE, Int.reduceBEq, Int.reduceBNe, e32, e33, e34, e35, e36, e37, hmem, Tryd.results6]
end Go.Proofs.YthkihocapdfonaaDoor
set_option maxRecDepth 100000
namespace Go.Proofs.YthkihocapdfonaaDoor
open Go.Vai Go Go.Proofs
open Nat (reduceEqDiff reduceMul reduceAdd reduceDiv reduceLeDiff)
open Int (reduceToNat reduceNe reduceEq reduceLT reduceLE)
theorem tableLate_lifted (os : Os) (started : os.Started) (H : Type) (enc : TypeId × Value → H) :
    ReturnsInHanded {} Tryd.checked os 6 .any (fun w args => (Rows.tableLateSpec.pre enc Tryd.prog Tryd.f6 [] false w args ∧ laidMetH Tryd.prog laid3 w) ∧ sizedMet enc Tryd.prog Tryd.f6 (OpenSpec.ofChange Rows.tableLateSpec) false w args)
      (Rows.tableLateSpec.post enc Tryd.prog Tryd.f6 false true false false) :=
  liftedG (C := Tryd.checked) (tb := 4) (ps := [OQ, OI, OI, OI, OI, OI, OI]) (X := fun w _ => laidMetH Tryd.prog laid3 w) (fun _ _ _ hh h => h.of_heap hh) own3 started (by kernel_rfl) Tryd.func6
    (ChangeSpec.witness_shaped (enc := enc) (C := Tryd.checked) (os := os) (X := fun w _ => laidMetH Tryd.prog laid3 w) false (World.doorLaid Tryd.prog 14 os) #[.slice none 0 0, .int .i64 0, .int .i64 0, .int .i64 0, .int .i64 0, .int .i64 0, .int .i64 0] 8 rfl (World.shaped_of_RefB (by kernel_rfl) (by kernel_rfl)) (by kernel_rfl) (by kernel_rfl) (by kernel_rfl) (door_met os _))
    laidOut3 (by kernel_rfl) (by kernel_rfl) (by kernel_rfl) rfl (len_7 fun _ _ _ _ _ _ _ => rfl)
    (fun w => ⟨o_fours, o_int (by kernel_rfl), o_int (by kernel_rfl), o_int (by kernel_rfl), o_int (by kernel_rfl), o_int (by kernel_rfl), o_int (by kernel_rfl), trivial⟩)
    (allP_7 fun a0 a1 a2 a3 a4 a5 a6 h0 h1 h2 h3 h4 h5 h6 => by
      obtain ⟨x0, hx0, hr0, rfl⟩ := h0
      obtain ⟨x1, hx1, rfl⟩ := h1
      obtain ⟨x2, hx2, rfl⟩ := h2
      obtain ⟨x3, hx3, rfl⟩ := h3
      obtain ⟨x4, hx4, rfl⟩ := h4
      obtain ⟨x5, hx5, rfl⟩ := h5
      obtain ⟨x6, hx6, rfl⟩ := h6
      exact late_ev x0 x1 x2 x3 x4 x5 x6 hx0 hr0 hx1 hx2 hx3 hx4 hx5 hx6)
    (fun _ _ h => gok h)
theorem tableLate_row : Rows.TableLateSaid :=
  OpenClaim.holds_of_wide 6 Tryd.f6 rfl rfl rfl rfl rfl rfl rfl ⟨rfl, rfl, rfl, rfl, rfl⟩ rfl rfl rfl rfl rfl (by kernel_rfl) Tryd.func6 (by kernel_rfl)
    (of_decide_eq_true (by kernel_rfl)) (by unfold Func.isWrapper; first | (rw [if_pos (by decide +kernel)]; kernel_rfl) | (rw [if_neg (by decide +kernel)]; exact ⟨rfl, rfl⟩))
    (fun os started H enc _ => tableLate_lifted os started H enc)
theorem tableLate_holds : Rows.TableLateCardSaid :=
  Claim7.holds_tied_plain_at .later [] [.data] true (true, "a7fbe88a3d6af073a3870589c160493439a8c551a37f68fc5a20ba86f7e405cd") false
    tableLate_row (fun _ h => by cases h) (by kernel_rfl) (fun _ h => by cases h) tableLate_row_tie rfl ⟨rfl, rfl⟩ (by kernel_rfl) rfl
    (fun f fn hf hfn => by
      obtain rfl : f = 6 := Option.some.inj ((show Tryd.prog.funcNamed "dialtone/dialtonelaw23.TableLate" = some 6 by kernel_rfl).symm.trans hf) |>.symm
      obtain rfl : fn = Tryd.f6 := (Option.some.inj (Tryd.func6.symm.trans hfn)).symm
      exact ⟨by kernel_rfl, fun j t ht => by
          rw [Tryd.params6] at ht
          rcases j with _ | j
          · obtain rfl : t = 22 := by simpa using ht.symm
            exact (show Tryd.prog.wantsStandIn 22 = false by kernel_rfl)
          rcases j with _ | j
          · obtain rfl : t = 3 := by simpa using ht.symm
            exact (show Tryd.prog.wantsStandIn 3 = false by kernel_rfl)
          rcases j with _ | j
          · obtain rfl : t = 3 := by simpa using ht.symm
            exact (show Tryd.prog.wantsStandIn 3 = false by kernel_rfl)
          rcases j with _ | j
          · obtain rfl : t = 3 := by simpa using ht.symm
            exact (show Tryd.prog.wantsStandIn 3 = false by kernel_rfl)
          rcases j with _ | j
          · obtain rfl : t = 3 := by simpa using ht.symm
            exact (show Tryd.prog.wantsStandIn 3 = false by kernel_rfl)
          rcases j with _ | j
          · obtain rfl : t = 3 := by simpa using ht.symm
            exact (show Tryd.prog.wantsStandIn 3 = false by kernel_rfl)
          rcases j with _ | j
          · obtain rfl : t = 3 := by simpa using ht.symm
            exact (show Tryd.prog.wantsStandIn 3 = false by kernel_rfl)
          simp at ht⟩)
    (by kernel_rfl)
#print axioms tableLate_holds
end Go.Proofs.YthkihocapdfonaaDoor

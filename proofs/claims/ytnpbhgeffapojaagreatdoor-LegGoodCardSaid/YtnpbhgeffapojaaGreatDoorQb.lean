/- Chapter 38, LegGood: with clocks without drift the billed spell is the leg; a further reading bills no second less. Conditions: the package variable digest.round reads as the program's text lays it (tied). -/
import Derived.Test.YtnpbhgeffapojaaGreatDoorKI
set_option linter.all false
set_option maxRecDepth 100000
namespace Go.Proofs.YtnpbhgeffapojaaGreatDoor
open Go.Proofs.Tryz
open Go.Vai Go Go.Proofs
set_option maxHeartbeats 8000000 in
theorem good_ev (y : Cr) (u v w f l : Int) (hy : y.ok) (hu : R64 u) (hv : R64 v) (hw : R64 w) (hf : R64 f) (hl : R64 l) : Ev prog 6 [CRP y, .agg [I u, I v, I w], I f, I l] (B true) := by
  obtain ⟨yd, ys, yr, ya⟩ := y
  have p1 := Jah (c := f) (n := 2000) (by omega)
  have p2 := Jah (c := l) (n := 900) (by omega)
  have d0 := Jhd
  have d1 := Jbz f 2000 hf (by omega)
  have d2 := Jbz l 900 hl (by omega)
  obtain ⟨y1, y2, y3, y4, y5, y6⟩ := hy
  simp only at *
  have hgood : Cr.ok ⟨0, ys, [], [(u, 0, 0)]⟩ := ⟨Jus, y2, (fun r hr => by cases hr), L13 _, (fun q hq => by obtain rfl := L0p.1 hq; exact ⟨hu, Jus, Jus⟩), show 1 <= 9223372036854775807 by decide⟩
  have hmin : (min (ya.length : Int) 11).toNat = min ya.length 11 := by omega
  have hless : Cr.ok ⟨yd, ys, yr, ya.take (min ya.length 11)⟩ := ⟨y1, y2, y3, y4, fun q hq => y5 q (L0D hq), by rw [L02]; omega⟩
  have hmore : Cr.ok ⟨yd, ys, yr, ya.take (min ya.length 11) ++ [(u, v, w)]⟩ := ⟨y1, y2, y3, y4, (fun q hq => by
    rcases L0v.1 hq with hq | hq
    . exact y5 q (L0D hq)
    . obtain rfl := L0p.1 hq; exact ⟨hu, hv, hw⟩), by rw [L08, L02]; simp only [L1d]; omega⟩
  have hyo : Cr.ok ⟨yd, ys, yr, ya⟩ := ⟨y1, y2, y3, y4, y5, y6⟩
  have d3 := Jbo _ hyo
  have d4 : Ev prog 16 [.agg [I 0, I ys, .v (.slice none 0 0), .sl 3 [.agg [I u, I 0, I 0]]]] (CKP (Cr.clk ⟨0, ys, [], [(u, 0, 0)]⟩)) := (Jbo _ hgood).asIf ⟨Jf7 ⟨JaA _, JaA _, Jc7 1, JaA _, trivial⟩, trivial⟩
  have d5 := Jbo _ hless; have d6 := Jbo _ hmore
  have d7 : Ev prog 28 [.agg [I 0, I ys, .v (.slice none 0 0), .sl 3 [.agg [I u, I 0, I 0]]], I (Jad f 2000), I (Jad f 2000 + Jad l 900)] (CNP (Cr.cnt ⟨0, ys, [], [(u, 0, 0)]⟩ (Jad f 2000) (Jad f 2000 + Jad l 900))) := (JbD _ (Jad f 2000) (Jad f 2000 + Jad l 900) hgood (by omega) (by omega)).asIf ⟨Jf7 ⟨JaA _, JaA _, Jc7 1, JaA _, trivial⟩, JaA _, JaA _, trivial⟩
  have d8 := JbD _ (Jad f 2000) (Jad f 2000 + Jad l 900) hyo (by omega) (by omega)
  obtain ⟨s, hs, hcs⟩ := JmV ⟨yd, ys, yr, ya⟩ u (f := Jad f 2000) (t := Jad f 2000 + Jad l 900) (by omega) (by omega) (by omega)
  obtain ⟨_, _, _, _, hlg, _⟩ := JcM hs
  have d9 := JdQ _ _ _ s hlg (JbJ _) (JbJ _) hs; rw [hcs] at d9
  obtain ⟨s2, hs2, _⟩ := Jdn ⟨yd, ys, yr, ya.take (min ya.length 11)⟩ ⟨yd, ys, yr, ya.take (min ya.length 11)⟩ (f := Jad f 2000) (t := Jad f 2000 + Jad l 900) (by omega) (by omega) (by omega)
  obtain ⟨s3, hs3, _⟩ := Jdn ⟨yd, ys, yr, ya.take (min ya.length 11)⟩ ⟨yd, ys, yr, ya.take (min ya.length 11) ++ [(u, v, w)]⟩ (f := Jad f 2000) (t := Jad f 2000 + Jad l 900) (by omega) (by omega) (by omega)
  obtain ⟨_, _, _, _, hlg2, _⟩ := JcM hs2
  have hs3 : Jbr (Cr.clk ⟨yd, ys, yr, ya.take (min ya.length 11)⟩) (Cr.clk ⟨yd, ys, yr, ya.take (min ya.length 11) ++ [(u, v, w)]⟩) ⟨3, 4, Cr.cnt ⟨yd, ys, yr, ya.take (min ya.length 11)⟩ (Jad f 2000) (Jad f 2000 + Jad l 900), Cr.cnt ⟨yd, ys, yr, ya.take (min ya.length 11)⟩ (Jad f 2000) (Jad f 2000 + Jad l 900)⟩ = some s3 := hs3
  have d10 := JdQ _ _ _ s2 hlg2 (JbJ _) (JbJ _) hs2; have d11 := JdQ _ _ _ s3 hlg2 (JbJ _) (JbJ _) hs3; have d12 := Jqs (Cr.clk ⟨yd, ys, yr, ya.take (min ya.length 11)⟩) (Cr.clk ⟨yd, ys, yr, ya.take (min ya.length 11) ++ [(u, v, w)]⟩) (JbJ _) (JbJ _)
  have hmr : allR (Cr.clk ⟨yd, ys, yr, ya.take (min ya.length 11)⟩) (Cr.clk ⟨yd, ys, yr, ya.take (min ya.length 11) ++ [(u, v, w)]⟩) = true -> (JaZ s2).1 = (JaZ s2).2 \/ ((JaZ s3).1 <= (JaZ s2).1 /\ (JaZ s2).2 <= (JaZ s3).2) := fun h =>
    Jm5 (a := Cr.clk ⟨yd, ys, yr, ya.take (min ya.length 11)⟩) (m := Cr.clk ⟨yd, ys, yr, ya.take (min ya.length 11) ++ [(u, v, w)]⟩) rfl hs2 hs3 (Jqr.1 h) rfl
  rw [Jxg yd ys yr (ya.take (min ya.length 11)) ya] at d10 d11; clear hs hs2 hs3 hlg hlg2 hgood hless hmore hyo hcs
  have hal : (ya.take (min ya.length 11)).length = min ya.length 11 := by rw [L02]; omega
  generalize Cr.cnt ⟨0, ys, [], [(u, 0, 0)]⟩ (Jad f 2000) (Jad f 2000 + Jad l 900) = C1 at *; generalize Cr.cnt ⟨yd, ys, yr, ya⟩ (Jad f 2000) (Jad f 2000 + Jad l 900) = C2 at *; generalize Cr.clk ⟨yd, ys, yr, ya⟩ = K1 at *; generalize Cr.clk ⟨0, ys, [], [(u, 0, 0)]⟩ = K2 at *; generalize Cr.clk ⟨yd, ys, yr, ya.take (min ya.length 11)⟩ = K3 at *; generalize Cr.clk ⟨yd, ys, yr, ya.take (min ya.length 11) ++ [(u, v, w)]⟩ = K4 at *; generalize allR K3 K4 = A at *; generalize JaZ s2 = w2 at *; generalize JaZ s3 = w3 at *; generalize Jad f 2000 = a at *; generalize Jad l 900 = b at *; generalize hTK : ya.take (min ya.length 11) = TK at *
  have hqt : TK.take (min ya.length 11) = TK := L09 (by omega)
  obtain ⟨k11, k12⟩ := K1; obtain ⟨k21, k22⟩ := K2; obtain ⟨k31, k32⟩ := K3; obtain ⟨k41, k42⟩ := K4; obtain ⟨c11, c12⟩ := C1; obtain ⟨c21, c22⟩ := C2; obtain ⟨w21, w22⟩ := w2; obtain ⟨w31, w32⟩ := w3
  simp only at *
  have hal2 : (TK ++ [(u, v, w)]).length = min ya.length 11 + 1 := by rw [L08, hal]; rfl
  have hqt2 : (TK ++ [(u, v, w)]).take (min ya.length 11 + 1) = TK ++ [(u, v, w)] := L09 (by omega)
  refine EW [7, 9, 10, 13] func6 ?_
  simp -implicitDefEqProofs (disch := omega) only [go_sem, ntmps6]
  refine Jaa d0 ?_
  simp -implicitDefEqProofs (disch := omega) only [go_sem]
  refine Jaa d1 ?_
  simp -implicitDefEqProofs (disch := omega) only [go_sem]
  refine Jaa d2 ?_
  simp -implicitDefEqProofs (disch := omega) only [go_sem]
  refine JaK Plain.mono [14680736] ?_
  simp -implicitDefEqProofs (disch := omega) only [go_sem]
  refine Jaa d3 ?_
  simp -implicitDefEqProofs (disch := omega) only [go_sem]
  refine Jd5 (fun D E σ => E 2 = I a /\ E 4 = .ptr 14680128 4 0 0 /\ E 5 = .ptr 14680144 3 0 0 /\ E 10 = I (a + b) /\ E 11 = .ptr 14680240 4 0 0 /\ E 12 = .ptr 14680256 2 0 0 /\ E 13 = .ptr 14680272 4 0 0 /\ σ 14680128 = some ⟨35, 4, [.agg [I yd, I ys, SL yr, QTS ya]]⟩ /\ σ 14680144 = some ⟨29, 3, [.agg [I u, I v, I w]]⟩ /\ σ 14680240 = some ⟨35, 4, [.agg [I 0, I ys, .v (.slice none 0 0), .sl 3 [.agg [I u, I 0, I 0]]]]⟩ /\ σ 14680256 = some ⟨58, 2, [.agg [I k11, RDS k12]]⟩ /\ (D 13 = true -> D 11 = true) /\ (D 11 = true -> D 10 = true) /\ (D 8 = true -> D 0 = true) /\ (D 11 = true -> D 8 = true) /\ (D 0 = true -> D 8 = false -> σ 14680816 = some ⟨29, 3, []⟩) /\ (D 0 = true -> D 8 = false -> E 47 = .own 14680816 3 0 0) /\ (D 8 = true -> D 11 = false -> σ 14680816 = some ⟨29, 3, TK.map QT⟩) /\ (D 8 = true -> D 11 = false -> E 55 = .own 14680816 3 0 (min ya.length 11)) /\ (D 11 = true -> σ 14680816 = some ⟨29, 3, (TK ++ [(u, v, w)]).map QT⟩) /\ (D 11 = true -> E 58 = .own 14680816 3 0 ((min ya.length 11) + 1)) /\ (D 10 = true -> σ 14680976 = some ⟨29, 3, [.agg [I u, I v, I w]]⟩) /\ (D 10 = true -> E 57 = .own 14680976 3 0 1) /\ (D 13 = false -> σ 14680272 = some ⟨35, 4, [.agg [I yd, I ys, SL yr, QTS ya]]⟩) /\ (D 13 = true -> σ 14680272 = some ⟨35, 4, [.agg [I yd, I ys, SL yr, .own 14680816 3 0 ((min ya.length 11) + 1)]]⟩) /\ (D 1 = true -> E 48 = .ptr 14680128 4 0 3) /\ (D 2 = true -> E 49 = QTS ya) /\ (D 3 = true -> E 50 = .ptr 14680128 4 0 3) /\ (D 4 = true -> E 51 = QTS ya) /\ (D 5 = true -> E 52 = I ya.length) /\ (D 6 = true -> E 53 = I (min (ya.length : Int) 11)) /\ (D 7 = true -> E 54 = QTS TK) /\ (D 9 = true -> E 56 = .agg [I u, I v, I w]) /\ (D 12 = true -> E 59 = .ptr 14680272 4 0 3)) ?_ ?_ ?_
  . simp -implicitDefEqProofs (disch := omega) only [go_sem, hmin, L0M, hTK, hal, hqt, hal2, hqt2, L05, false_and, and_self]; try simp
  . simp only [Jfd, depK, Region.binds, eq_self, forall_const, and_true]
    repeat' apply And.intro
    all_goals
      rintro D E σ ⟨e2, e4, e5, e10, e11, e12, e13, m4, m5, m11, m12, c13_11, c11_10, c8_0, c11_8, m0_0, n0_0, m0_1, n0_1, m0_2, n0_2, m1_0, n1_0, m2_0, m2_1, j1, j2, j3, j4, j5, j6, j7, j9, j12⟩ hd
      have k := And.intro trivial <| And.intro (cK c13_11) <| And.intro (cK c11_10) <| And.intro (cK c8_0) <| And.intro (cK c11_8) trivial
      simp -implicitDefEqProofs (disch := first | assumption | (simp only [hd, k]; done) | omega) only [go_sem, e2, e4, e5, e10, e11, e12, e13, m4, m5, m11, m12, m0_0, n0_0, m0_1, n0_1, m0_2, n0_2, m1_0, n1_0, m2_0, m2_1, j1, j2, j3, j4, j5, j6, j7, j9, j12, hmin, L0M, hTK, hal, hqt, hal2, hqt2, L05, false_and, and_self]
      repeat' apply And.intro
      all_goals first | assumption | (intro _; assumption) | trivial | (simp -implicitDefEqProofs (contextual := true) (disch := first | assumption | omega) only [go_sem, m0_0, n0_0, m0_1, n0_1, m0_2, n0_2, m1_0, n1_0, m2_0, m2_1, j1, j2, j3, j4, j5, j6, j7, j9, j12, hd, c13_11, c11_10, c8_0, c11_8, k, implies_true, forall_const, false_implies, true_implies]; done) | (intro h; intros; exfalso; simp (maxDischargeDepth := 9) [hd, k] at h; done) | (intros; contradiction) | trace_state
  . rintro D E σ hD ⟨e2, e4, e5, e10, e11, e12, e13, m4, m5, m11, m12, c13_11, c11_10, c8_0, c11_8, m0_0, n0_0, m0_1, n0_1, m0_2, n0_2, m1_0, n1_0, m2_0, m2_1, j1, j2, j3, j4, j5, j6, j7, j9, j12⟩
    have g0 := m0_2 (hD 11 (by decide))
    have f0 := n0_2 (hD 11 (by decide))
    have g1 := m1_0 (hD 10 (by decide))
    have f1 := n1_0 (hD 10 (by decide))
    have g2 := m2_1 (hD 13 (by decide))
    have q1 := j1 (hD 1 (by decide))
    have q2 := j2 (hD 2 (by decide))
    have q3 := j3 (hD 3 (by decide))
    have q4 := j4 (hD 4 (by decide))
    have q5 := j5 (hD 5 (by decide))
    have q6 := j6 (hD 6 (by decide))
    have q7 := j7 (hD 7 (by decide))
    have q9 := j9 (hD 9 (by decide))
    have q12 := j12 (hD 12 (by decide))
    clear c13_11 c11_10 c8_0 c11_8 m0_0 n0_0 m0_1 n0_1 m0_2 n0_2 m1_0 n1_0 m2_0 m2_1 j1 j2 j3 j4 j5 j6 j7 j9 j12 hD; simp -implicitDefEqProofs (disch := omega) only [go_sem, e2, e4, e5, e10, e11, e12, e13, m4, m5, m11, m12, g0, g2, hmin, L0M, hTK, hal, hqt, hal2, hqt2, L05, false_and, and_self]
    refine JaK Plain.mono [14680816] ?_
    simp -implicitDefEqProofs (disch := omega) only [go_sem, e2, e4, e5, e10, e11, e12, e13, m4, m5, m11, m12, g0, g2, hmin, L0M, hTK, hal, hqt, hal2, hqt2, L05, false_and, and_self]
    refine Jaa d7 ?_
    simp -implicitDefEqProofs (disch := omega) only [go_sem, e2, e4, e5, e10, e11, e12, e13, m4, m5, m11, m12, g0, g2, hal2, hqt2, hmin, L0M, hTK, hal, hqt, false_and, and_self]
    refine Jaa d8 ?_
    simp -implicitDefEqProofs (disch := omega) only [go_sem, e2, e4, e5, e10, e11, e12, e13, m4, m5, m11, m12, g0, g2, hal2, hqt2, false_and, and_self]
    refine Jcu Plain.mono ?_
    simp -implicitDefEqProofs (disch := omega) only [go_sem, e2, e4, e5, e10, e11, e12, e13, m4, m5, m11, m12, g0, g2, hal2, hqt2, false_and, and_self]
    refine Jaa d4 ?_ (h4 := by first | exact .inl rfl | exact .inr (JcB _))
    simp -implicitDefEqProofs (disch := omega) only [go_sem, e2, e4, e5, e10, e11, e12, e13, m4, m5, m11, m12, g0, g2, hal2, hqt2]
    refine Jaa d9 ?_
    simp -implicitDefEqProofs (disch := omega) only [go_sem, e2, e4, e5, e10, e11, e12, e13, m4, m5, m11, m12, g0, g2, hal2, hqt2]
    refine Jab (fun h => by simp at h) (fun h => ?_)
    simp -implicitDefEqProofs (disch := omega) only [go_sem, e2, e4, e5, e10, e11, e12, e13, m4, m5, m11, m12, g0, g2, hal2, hqt2]
    refine Jaa d5 ?_
    simp -implicitDefEqProofs (disch := omega) only [go_sem, e2, e4, e5, e10, e11, e12, e13, m4, m5, m11, m12, g0, g2, hal2, hqt2]
    refine Jaa d6 ?_
    simp -implicitDefEqProofs (disch := omega) only [go_sem, e2, e4, e5, e10, e11, e12, e13, m4, m5, m11, m12, g0, g2, hal2, hqt2]
    refine Jaa d10 ?_
    simp -implicitDefEqProofs (disch := omega) only [go_sem, e2, e4, e5, e10, e11, e12, e13, m4, m5, m11, m12, g0, g2, hal2, hqt2]
    refine Jaa d11 ?_
    simp -implicitDefEqProofs (disch := omega) only [go_sem, e2, e4, e5, e10, e11, e12, e13, m4, m5, m11, m12, g0, g2, hal2, hqt2]
    refine Jaa d12 ?_
    cases A with
    | false => simp -implicitDefEqProofs (disch := omega) only [go_sem, e2, e4, e5, e10, e11, e12, e13, m4, m5, m11, m12, g0, g2, hal2, hqt2, results6]
    | true =>
    simp -implicitDefEqProofs (disch := omega) only [go_sem, e2, e4, e5, e10, e11, e12, e13, m4, m5, m11, m12, g0, g2, hal2, hqt2]; have q4 := hmr rfl
    refine Jab (fun h => ?_) (fun h => ?_)
    . simp -implicitDefEqProofs (disch := omega) only [go_sem, e2, e4, e5, e10, e11, e12, e13, m4, m5, m11, m12, g0, g2, hal2, hqt2, results6]
    simp -implicitDefEqProofs (disch := omega) only [go_sem, e2, e4, e5, e10, e11, e12, e13, m4, m5, m11, m12, g0, g2, hal2, hqt2]
    have h5 : w31 <= w21 /\ w22 <= w32 := by rcases q4 with q | q; exact absurd q h; exact q
    refine Jab (fun h => ?_) (fun h => absurd h5.1 (by omega))
    simp -implicitDefEqProofs (disch := omega) only [go_sem, e2, e4, e5, e10, e11, e12, e13, m4, m5, m11, m12, g0, g2, hal2, hqt2, h5.2, results6]
    try simp [h5.2]
theorem legGood_lifted (os : Os) (started : os.Started) (H : Type) (enc : TypeId × Value -> H) :
    ReturnsInHanded {} Tryz.checked os 6 .any (fun w args => (Rows.legGoodSpec.pre enc prog Tryz.f6 [] false w args /\ laidMetH prog Jdt w) /\ sizedMet enc prog Tryz.f6 (OpenSpec.ofChange Rows.legGoodSpec) false w args)
      (Rows.legGoodSpec.post enc prog Tryz.f6 false true false false) :=
  JgO (C := Tryz.checked) (tb := 4) (ps := [OC, OT, OI, OI]) (X := fun w _ => laidMetH prog Jdt w) (fun _ _ _ hh h => h.of_heap hh) own3 started (by kernel_rfl) func6
    (ChangeSpec.witness_shaped (enc := enc) (C := Tryz.checked) (os := os) (X := fun w _ => laidMetH prog Jdt w) false (World.doorLaid prog 14 os) #[.agg #[.int .i64 0, .int .i64 0, .slice none 0 0, .slice none 0 0], .agg #[.int .i64 0, .int .i64 0, .int .i64 0], .int .i64 0, .int .i64 0] 8 rfl (World.shaped_of_RefB (by kernel_rfl) (by kernel_rfl)) (by kernel_rfl) (by kernel_rfl) (by kernel_rfl) (JeN os _))
    JeU (by kernel_rfl) (by kernel_rfl) (by kernel_rfl) rfl (JxK fun _ _ _ _ => rfl)
    (fun w => ⟨Jd0, Jph, Jdh (by kernel_rfl), Jdh (by kernel_rfl), trivial⟩)
    (JnI fun a0 a1 a2 a3 h0 h1 h2 h3 => by
      obtain ⟨x0, hx0, rfl⟩ := h0; obtain ⟨x1, y1, z1, hx1, hy1, hz1, rfl⟩ := h1; obtain ⟨x2, hx2, rfl⟩ := h2; obtain ⟨x3, hx3, rfl⟩ := h3
      exact good_ev x0 x1 y1 z1 x2 x3 hx0 hx1 hy1 hz1 hx2 hx3)
    (fun _ _ h => gok h)
theorem legGood_row : Rows.LegGoodSaid :=
  OpenClaim.holds_of_wide 6 Tryz.f6 rfl rfl rfl rfl rfl rfl rfl ⟨rfl, rfl, rfl, rfl, rfl⟩ rfl rfl rfl rfl rfl (by kernel_rfl) func6 (by kernel_rfl)
    (of_decide_eq_true (by kernel_rfl)) (by unfold Func.isWrapper; first | (rw [if_pos (by decide +kernel)]; kernel_rfl) | (rw [if_neg (by decide +kernel)]; exact ⟨rfl, rfl⟩))
    (fun os started H enc _ => legGood_lifted os started H enc)
theorem legGood_holds : Rows.LegGoodCardSaid :=
  Claim7.holds_tied_plain_at .later [] [.data] true (true, "43ff5d6d438086e88ed6ccc25955440aba0cd482b19469407fb38ba16744b6d5") false
    legGood_row (fun _ h => by cases h) (by kernel_rfl) (fun _ h => by cases h) legGood_row_tie rfl ⟨rfl, rfl⟩ (by kernel_rfl) rfl
    (fun f fn hf hfn => by
      obtain rfl : f = 6 := Option.some.inj ((show prog.funcNamed "dialtone/dialtonelaw38.LegGood" = some 6 by kernel_rfl).symm.trans hf) |>.symm
      obtain rfl : fn = Tryz.f6 := (Option.some.inj (func6.symm.trans hfn)).symm
      exact ⟨by kernel_rfl, fun j t ht => by
          rw [Tryz.params6] at ht
          rcases j with _ | j
          . obtain rfl : t = 35 := by simpa using ht.symm
            exact (show prog.wantsStandIn 35 = false by kernel_rfl)
          rcases j with _ | j
          . obtain rfl : t = 29 := by simpa using ht.symm
            exact (show prog.wantsStandIn 29 = false by kernel_rfl)
          rcases j with _ | j
          . obtain rfl : t = 3 := by simpa using ht.symm
            exact (show prog.wantsStandIn 3 = false by kernel_rfl)
          rcases j with _ | j
          . obtain rfl : t = 3 := by simpa using ht.symm
            exact (show prog.wantsStandIn 3 = false by kernel_rfl)
          simp at ht⟩)
    (by kernel_rfl)
#print axioms legGood_holds
end Go.Proofs.YtnpbhgeffapojaaGreatDoor

/- Chapter 38, LegSound: ends that count what courses show agree, and bill no second that was not part of the leg. Conditions: the package variable digest.round reads as the program's text lays it (tied). -/
import Derived.Test.YtnpbhgeffapojaaGreatDoorKI
set_option linter.all false
set_option maxRecDepth 100000
namespace Go.Proofs.YtnpbhgeffapojaaGreatDoor
open Go.Proofs.Tryz
open Go.Vai Go Go.Proofs
set_option maxHeartbeats 4000000 in
theorem sound_ev (y z : Cr) (f l : Int) (hy : y.ok) (hz : z.ok) (hf : R64 f) (hl : R64 l) : Ev prog 5 [CRP y, CRP z, I f, I l] (B true) := by
  have p1 := Jah (c := f) (n := 2000) (by omega)
  have p2 := Jah (c := l) (n := 900) (by omega)
  have d0 := Jhd
  have d1 := Jbz f 2000 hf (by omega)
  have d2 := Jbz l 900 hl (by omega)
  have d3 := Jbo y hy; have d4 := Jbo z hz
  have d5 := JbD y (Jad f 2000) (Jad f 2000 + Jad l 900) hy (by omega) (by omega)
  have d6 := JbD z (Jad f 2000) (Jad f 2000 + Jad l 900) hz (by omega) (by omega)
  obtain ⟨s, hs, q1, q2⟩ := Jdn y z (f := Jad f 2000) (t := Jad f 2000 + Jad l 900) (by omega) (by omega) (by omega)
  obtain ⟨_, _, _, _, hlg, _⟩ := JcM hs
  have d7 := Jdw y.clk z.clk ⟨3, 4, y.cnt (Jad f 2000) (Jad f 2000 + Jad l 900), z.cnt (Jad f 2000) (Jad f 2000 + Jad l 900)⟩ (JbJ y) (JbJ z); rw [hs] at d7; have d8 := JdQ y.clk z.clk _ s hlg (JbJ y) (JbJ z) hs; have d9 := Jfk s; have q3 := Jtq s; have q4 := Jnp ⟨q1, q2⟩; clear hs hlg; generalize y.clk = K1 at *; generalize z.clk = K2 at *; generalize y.cnt (Jad f 2000) (Jad f 2000 + Jad l 900) = C1 at *; generalize z.cnt (Jad f 2000) (Jad f 2000 + Jad l 900) = C2 at *; generalize JaZ s = w at *; generalize Jad f 2000 = a at *; generalize Jad l 900 = b at *; obtain ⟨k11, k12⟩ := K1; obtain ⟨k21, k22⟩ := K2; obtain ⟨c11, c12⟩ := C1; obtain ⟨c21, c22⟩ := C2
  obtain ⟨⟨s1, s2⟩, ⟨s3, s4⟩⟩ := s
  obtain ⟨w1, w2⟩ := w; obtain ⟨y1, y2, y3, y4⟩ := y; obtain ⟨z1, z2, z3, z4⟩ := z
  simp only at *
  refine EV func5 ?_
  simp -implicitDefEqProofs (disch := omega) only [go_sem, ntmps5]
  refine Jaa d0 ?_
  simp -implicitDefEqProofs (disch := omega) only [go_sem]
  refine Jaa d1 ?_
  simp -implicitDefEqProofs (disch := omega) only [go_sem]
  refine Jaa d2 ?_
  simp -implicitDefEqProofs (disch := omega) only [go_sem]
  refine Jaa d3 ?_
  simp -implicitDefEqProofs (disch := omega) only [go_sem]
  refine Jaa d4 ?_
  simp -implicitDefEqProofs (disch := omega) only [go_sem]
  refine Jaa d5 ?_
  simp -implicitDefEqProofs (disch := omega) only [go_sem]
  refine Jaa d6 ?_
  simp -implicitDefEqProofs (disch := omega) only [go_sem]
  refine Jaa d7 ?_
  simp -implicitDefEqProofs (disch := omega) only [go_sem]
  refine Jab (fun h => absurd h (by omega)) (fun h => ?_)
  simp -implicitDefEqProofs (disch := omega) only [go_sem]
  refine Jab (fun h => absurd h (by omega)) (fun h => ?_)
  simp -implicitDefEqProofs (disch := omega) only [go_sem]
  refine Jab (fun h => absurd h (by omega)) (fun h => ?_)
  simp -implicitDefEqProofs (disch := omega) only [go_sem]
  refine Jab (fun h => absurd h (by omega)) (fun h => ?_)
  simp -implicitDefEqProofs (disch := omega) only [go_sem]
  refine Jaa d8 ?_
  simp -implicitDefEqProofs (disch := omega) only [go_sem]
  refine Jaa d9 ?_
  simp -implicitDefEqProofs (disch := omega) only [go_sem]
  refine Jab (fun h => by simp at h) (fun h => ?_)
  simp -implicitDefEqProofs (disch := omega) only [go_sem]
  refine Jab (fun h => absurd h (by omega)) (fun h => ?_)
  simp -implicitDefEqProofs (disch := omega) only [go_sem]
  refine Jab (fun h => ?_) (fun h => ?_)
  . simp -implicitDefEqProofs (disch := omega) only [go_sem, results5]
  simp -implicitDefEqProofs (disch := omega) only [go_sem]
  have h5 : a <= w1 /\ w2 <= a + b := by rcases q4 with q | q; exact absurd q h; exact q
  refine Jab (fun h => ?_) (fun h => absurd h5.1 (by omega))
  simp -implicitDefEqProofs (disch := omega) only [go_sem, h5.2, results5]
  try simp [h5.2]
theorem legSound_lifted (os : Os) (started : os.Started) (H : Type) (enc : TypeId × Value -> H) :
    ReturnsInHanded {} Tryz.checked os 5 .any (fun w args => (Rows.legSoundSpec.pre enc prog Tryz.f5 [] false w args /\ laidMetH prog Jdt w) /\ sizedMet enc prog Tryz.f5 (OpenSpec.ofChange Rows.legSoundSpec) false w args)
      (Rows.legSoundSpec.post enc prog Tryz.f5 false true false false) :=
  JgO (C := Tryz.checked) (tb := 4) (ps := [OC, OC, OI, OI]) (X := fun w _ => laidMetH prog Jdt w) (fun _ _ _ hh h => h.of_heap hh) own3 started (by kernel_rfl) func5
    (ChangeSpec.witness_shaped (enc := enc) (C := Tryz.checked) (os := os) (X := fun w _ => laidMetH prog Jdt w) false (World.doorLaid prog 14 os) #[.agg #[.int .i64 0, .int .i64 0, .slice none 0 0, .slice none 0 0], .agg #[.int .i64 0, .int .i64 0, .slice none 0 0, .slice none 0 0], .int .i64 0, .int .i64 0] 8 rfl (World.shaped_of_RefB (by kernel_rfl) (by kernel_rfl)) (by kernel_rfl) (by kernel_rfl) (by kernel_rfl) (JeN os _))
    JeU (by kernel_rfl) (by kernel_rfl) (by kernel_rfl) rfl (JxK fun _ _ _ _ => rfl)
    (fun w => ⟨Jd0, Jd0, Jdh (by kernel_rfl), Jdh (by kernel_rfl), trivial⟩)
    (JnI fun a0 a1 a2 a3 h0 h1 h2 h3 => by
      obtain ⟨x0, hx0, rfl⟩ := h0; obtain ⟨x1, hx1, rfl⟩ := h1; obtain ⟨x2, hx2, rfl⟩ := h2; obtain ⟨x3, hx3, rfl⟩ := h3
      exact sound_ev x0 x1 x2 x3 hx0 hx1 hx2 hx3)
    (fun _ _ h => gok h)
theorem legSound_row : Rows.LegSoundSaid :=
  OpenClaim.holds_of_wide 5 Tryz.f5 rfl rfl rfl rfl rfl rfl rfl ⟨rfl, rfl, rfl, rfl, rfl⟩ rfl rfl rfl rfl rfl (by kernel_rfl) func5 (by kernel_rfl)
    (of_decide_eq_true (by kernel_rfl)) (by unfold Func.isWrapper; first | (rw [if_pos (by decide +kernel)]; kernel_rfl) | (rw [if_neg (by decide +kernel)]; exact ⟨rfl, rfl⟩))
    (fun os started H enc _ => legSound_lifted os started H enc)
theorem legSound_holds : Rows.LegSoundCardSaid :=
  Claim7.holds_tied_plain_at .later [] [.data] true (true, "43ff5d6d438086e88ed6ccc25955440aba0cd482b19469407fb38ba16744b6d5") false
    legSound_row (fun _ h => by cases h) (by kernel_rfl) (fun _ h => by cases h) legSound_row_tie rfl ⟨rfl, rfl⟩ (by kernel_rfl) rfl
    (fun f fn hf hfn => by
      obtain rfl : f = 5 := Option.some.inj ((show prog.funcNamed "dialtone/dialtonelaw38.LegSound" = some 5 by kernel_rfl).symm.trans hf) |>.symm
      obtain rfl : fn = Tryz.f5 := (Option.some.inj (func5.symm.trans hfn)).symm
      exact ⟨by kernel_rfl, fun j t ht => by
          rw [Tryz.params5] at ht
          rcases j with _ | j
          . obtain rfl : t = 35 := by simpa using ht.symm
            exact (show prog.wantsStandIn 35 = false by kernel_rfl)
          rcases j with _ | j
          . obtain rfl : t = 35 := by simpa using ht.symm
            exact (show prog.wantsStandIn 35 = false by kernel_rfl)
          rcases j with _ | j
          . obtain rfl : t = 3 := by simpa using ht.symm
            exact (show prog.wantsStandIn 3 = false by kernel_rfl)
          rcases j with _ | j
          . obtain rfl : t = 3 := by simpa using ht.symm
            exact (show prog.wantsStandIn 3 = false by kernel_rfl)
          simp at ht⟩)
    (by kernel_rfl)
#print axioms legSound_holds
end Go.Proofs.YtnpbhgeffapojaaGreatDoor

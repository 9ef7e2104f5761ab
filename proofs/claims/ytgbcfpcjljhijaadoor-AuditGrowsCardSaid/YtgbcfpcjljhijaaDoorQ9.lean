/- Chapter 40, AuditGrows: a further charge changes the Sums of the seal by its Amount, at Payer and Payee alone, and no Charges and no salt of another customer's account. Conditions: the package variable digest.round reads as the program's text lays it (tied). -/
import Derived.Test.YtgbcfpcjljhijaaDoorKI
set_option linter.unusedVariables false
set_option linter.unusedSimpArgs false
set_option maxRecDepth 100000
namespace Go.Proofs.YtgbcfpcjljhijaaDoor
open Go.Vai Go Go.Proofs
open Nat (reduceEqDiff reduceMul reduceAdd reduceDiv reduceLeDiff)
open Int (reduceToNat reduceNe reduceEq reduceLT reduceLE)
theorem grow_sum {l : List Ch} {c : Ch} (hl : ∀ x ∈ l, x.good) (hc : c.good) {j : Nat} (hj : j < 8) : gd (sumsF (l ++ [c])) j = gd (sumsF l) j + ctr j c := by
  rw [sumsF_gd hl hj, sumsF_gd (by intro x hx; rcases List.mem_append.1 hx with h | h; exact hl x h; simp at h; rw [h]; exact hc) hj, sumJ_append, sumJ_cons, sumJ_nil]; omega
theorem ofF_append (l : List Ch) (c : Ch) (h : Int) : ofF (l ++ [c]) h = if c.h = h then ofF l h ++ [c] else ofF l h := by
  unfold ofF; rw [List.filter_append]; by_cases e : c.h = h <;> simp [e]
theorem le_R64 {l : List Ch} (hl : ∀ c ∈ l, c.good) (hn : l.length ≤ 60) : ∀ n ∈ sumsF l, R64 n := fun n hn' => by
  obtain ⟨i, hi, rfl⟩ := List.mem_iff_getElem.1 hn'
  have h8 := sumsF_len l
  have e := sumsF_gd hl (j := i) (by omega)
  rw [gd_get _ i hi] at e
  have := sumJ_le hl i
  rw [e]; unfold R64; omega
theorem own_ev (K : ByteArray) (l : List Ch) (h : Nat) (hok : ledOK K l = true) (h63 : h < 64) : Ev Tryd.prog 30 [RP (sealT K l), AP (ownA K l h)] (B true) := by
  simp only [ledOK, Bool.and_eq_true] at hok
  obtain ⟨hn, hg⟩ := chsOK_good hok.2
  have hs : (sealT K l).1 = sumsF l := seal_sums K hg hn
  have h8 := row_len8 K hg hn (k := 6) (i := 0) (by omega) (by decide)
  have := check_ev (sealT K l) (ownA K l h) (by show (ofF l h).length ≤ _; have := ofF_len l h; omega) (by show (pathT K l h).length ≤ _; simp [pathT]) (by rw [hs, sumsF_len]; omega) (by rw [hs]; exact le_R64 hg hn) (by have : (sealT K l).2.size = 32 := h8.2; omega)
  rwa [own_check K hg hn h h63] at this
set_option maxHeartbeats 4000000 in
theorem grows_ev (key : Int) (x : List Fiv) (y : Fiv) (cu : Int) (hk : R64 key) (hx : x.length ≤ 9223372036854775807) (hr : ∀ y ∈ x, y.r) (hy : y.r) (hcu : R64 cu) : Ev Tryd.prog 9 [I key, FL x, FP y, I cu] (B true) := by
  have hm := made_ev key x hk hx hr
  have hok := made_ok key x
  have hg := madeF_good x
  have hl10 := madeF_len x
  have hks := madeK_size key
  have ho := one_ev y hy
  have hog := oneF_good y
  generalize madeK key = K at *
  generalize madeF x = l at *
  generalize oneF y = c at *
  have hll : l.length ≤ 9223372036854775807 := by omega
  obtain ⟨m, hmm⟩ : ∃ m, m = l ++ [c] := ⟨_, rfl⟩
  have hml : m.length = l.length + 1 := by rw [hmm]; simp
  have hgm : ∀ x ∈ m, x.good := by rw [hmm]; intro x hx; rcases List.mem_append.1 hx with h | h; exact hg x h; simp at h; rw [h]; exact hog
  have hokm : ledOK K m = true := by simp only [ledOK, hks, decide_true, Bool.true_and]; exact good_chsOK (by omega) hgm
  have k1 := sealOK_ev K l hll hok
  have k2 := sealOK_ev K m (by omega) hokm
  have hs : (sealT K l).1 = sumsF l := seal_sums K hg (by omega)
  have hsm : (sealT K m).1 = sumsF m := seal_sums K hgm (by omega)
  have hs8 := sumsF_len l
  have hm8 := sumsF_len m
  have hgs : ∀ j, j < 8 → gd (sumsF m) j = gd (sumsF l) j + ctr j c := fun j hj => by rw [hmm]; exact grow_sum hg hog hj
  have hsb : ∀ j, j < 8 → -60000000000 ≤ gd (sumsF l) j ∧ gd (sumsF l) j ≤ 60000000000 := fun j hj => by
    rw [sumsF_gd hg hj]; have := sumJ_le hg j; omega
  have hpk := pick_ev cu 8 hcu (by omega)
  have hpb := pickF_in (c := cu) (n := 8) (by omega)
  obtain ⟨h, hh⟩ : ∃ h : Nat, pickF cu 8 = h := ⟨(pickF cu 8).toNat, by omega⟩
  rw [hh] at hpk
  have h63 : h < 64 := by omega
  have a1 := accOK_ev K l h hll hok h63
  have a2 := accOK_ev K m h (by omega) hokm h63
  have ck := own_ev K m h hokm h63
  have us : (ownA K l h).s = (ownA K m h).s := rfl
  have uo : (ownA K m h).l = if c.h = (h : Int) then (ownA K l h).l ++ [c] else (ownA K l h).l := by
    show ofF m h = if c.h = (h : Int) then ofF l h ++ [c] else ofF l h
    rw [hmm]; exact ofF_append l c h
  have ul : (ownA K l h).l.length ≤ 10 := Nat.le_trans (ofF_len l h) hl10
  have hgo := hog
  obtain ⟨⟨p1, p2, q1, q2, b1, b2, _⟩, hpq⟩ := hgo
  generalize hS : sealT K l = S at *
  generalize hS' : sealT K m = S' at *
  obtain ⟨S1, S2⟩ := S
  obtain ⟨T1, T2⟩ := S'
  simp only at hs hsm
  subst hs hsm
  generalize sumsF l = s at *
  generalize sumsF m = t at *
  generalize ownA K l h = u at *
  generalize ownA K m h = v at *
  refine ev_ofB [6] Tryd.func9 rfl (by kernel_rfl) mo (Nat.le_of_ble_eq_true rfl) ?_
  simp -implicitDefEqProofs (disch := omega) only [go_sem, ↓reduceIte, reduceEqDiff, reduceMul, reduceAdd, reduceDiv, Nat.reduceBEq, reduceLeDiff, reduceToNat, reduceNe, reduceEq, reduceLT, reduceLE, Int.reduceBEq, Int.reduceBNe, Tryd.ntmps9]
  refine callC_at sane_ev ?_
  simp -implicitDefEqProofs (disch := omega) only [go_sem, ↓reduceIte, reduceEqDiff, reduceMul, reduceAdd, reduceDiv, Nat.reduceBEq, reduceLeDiff, reduceToNat, reduceNe, reduceEq, reduceLT, reduceLE, Int.reduceBEq, Int.reduceBNe]
  refine callC_at hm ?_
  simp -implicitDefEqProofs (disch := omega) only [go_sem, ↓reduceIte, reduceEqDiff, reduceMul, reduceAdd, reduceDiv, Nat.reduceBEq, reduceLeDiff, reduceToNat, reduceNe, reduceEq, reduceLT, reduceLE, Int.reduceBEq, Int.reduceBNe]
  refine callC_at ho ?_
  simp -implicitDefEqProofs (disch := omega) only [go_sem, ↓reduceIte, reduceEqDiff, reduceMul, reduceAdd, reduceDiv, Nat.reduceBEq, reduceLeDiff, reduceToNat, reduceNe, reduceEq, reduceLT, reduceLE, Int.reduceBEq, Int.reduceBNe]
  refine region_J (Plain.mono) (fun D E σ => E 3 = I cu ∧ E 10 = .ptr 20971680 2 0 0 ∧ E 11 = .ptr 20971696 5 0 0 ∧ σ 20971680 = some ⟨26, 2, [LP K l]⟩ ∧ σ 20971696 = some ⟨30, 5, [CH c]⟩ ∧ (D 11 = true → D 9 = true) ∧ (D 9 = true → D 8 = true) ∧ (D 5 = true → D 2 = true) ∧ (D 8 = true → D 5 = true) ∧ (D 11 = true → D 10 = true) ∧ (D 2 = true → D 5 = false → σ 20972064 = some ⟨30, 5, []⟩) ∧ (D 2 = true → D 5 = false → E 34 = .own 20972064 5 0 0) ∧ (D 5 = true → D 8 = false → σ 20972064 = some ⟨30, 5, l.map CH⟩) ∧ (D 5 = true → D 8 = false → E 37 = .own 20972064 5 0 l.length) ∧ (D 8 = true → σ 20972064 = some ⟨30, 5, m.map CH⟩) ∧ (D 8 = true → E 40 = .own 20972064 5 0 (l.length + 1)) ∧ (D 7 = true → σ 20972144 = some ⟨30, 5, [CH c]⟩) ∧ (D 7 = true → E 39 = .own 20972144 5 0 1) ∧ (D 10 = true → D 11 = false → σ 20971712 = some ⟨26, 2, [.agg [.v (.string ByteArray.empty), .v (.slice none 0 0)]]⟩) ∧ (D 11 = true → σ 20971712 = some ⟨26, 2, [.agg [Str K, .own 20972064 5 0 (l.length + 1)]]⟩) ∧ (D 0 = true → E 32 = .ptr 20971680 2 0 0) ∧ (D 1 = true → E 33 = Str K) ∧ (D 3 = true → E 35 = .ptr 20971680 2 0 1) ∧ (D 4 = true → E 36 = CL l) ∧ (D 6 = true → E 38 = CH c) ∧ (D 9 = true → E 41 = .agg [Str K, .own 20972064 5 0 (l.length + 1)]) ∧ (D 10 = true → E 12 = .ptr 20971712 2 0 0)) ?_ ?_ ?_
  · simp -implicitDefEqProofs (disch := omega) only [go_sem, ↓reduceIte, reduceEqDiff, reduceMul, reduceAdd, reduceDiv, Nat.reduceBEq, reduceLeDiff, reduceToNat, reduceNe, reduceEq, reduceLT, reduceLE, Int.reduceBEq, Int.reduceBNe, hmm.symm, List.take_length]
    simp
  · simp only [stepsJ, and_true]
    refine ⟨?_, ?_, ?_, ?_, ?_, ?_, ?_, ?_, ?_, ?_, ?_, ?_⟩
    · rintro D hD hd E σ ⟨e3, e10, e11, s10, s11, c11_9, c9_8, c5_2, c8_5, c11_10, m0_0, n0_0, m0_1, n0_1, m0_2, n0_2, m1_0, n1_0, m2_0, m2_1, j0, j1, j3, j4, j6, j9, j10⟩
      have hD : D 0 = false := hD
      simp -implicitDefEqProofs (disch := omega) only [go_sem, ↓reduceIte, reduceEqDiff, reduceMul, reduceAdd, reduceDiv, Nat.reduceBEq, reduceLeDiff, reduceToNat, reduceNe, reduceEq, reduceLT, reduceLE, Int.reduceBEq, Int.reduceBNe, e3, e10, e11, s10, s11, hmm.symm, List.take_length]
      repeat' apply And.intro
      all_goals first | assumption | (intro _; assumption) | trivial | (simp -implicitDefEqProofs (contextual := true) (disch := first | assumption | omega) only [go_sem, ↓reduceIte, reduceEqDiff, reduceMul, reduceAdd, reduceDiv, Nat.reduceBEq, reduceLeDiff, reduceToNat, reduceNe, reduceEq, reduceLT, reduceLE, Int.reduceBEq, Int.reduceBNe, m0_2, n0_2, m1_0, n1_0, m2_1, j0, j1, j3, j4, j6, j9, j10, m0_0, n0_0, m0_1, n0_1, m2_0, implies_true, forall_const, false_implies, true_implies]; done) | (intros; contradiction) | trace_state
    · rintro D hD hd E σ ⟨e3, e10, e11, s10, s11, c11_9, c9_8, c5_2, c8_5, c11_10, m0_0, n0_0, m0_1, n0_1, m0_2, n0_2, m1_0, n1_0, m2_0, m2_1, j0, j1, j3, j4, j6, j9, j10⟩
      have hD : D 1 = false := hD
      have d0 : D 0 = true := hd ⟨0, .data⟩ (by simp) rfl
      have q0 := j0 d0
      simp -implicitDefEqProofs (disch := omega) only [go_sem, ↓reduceIte, reduceEqDiff, reduceMul, reduceAdd, reduceDiv, Nat.reduceBEq, reduceLeDiff, reduceToNat, reduceNe, reduceEq, reduceLT, reduceLE, Int.reduceBEq, Int.reduceBNe, e3, e10, e11, s10, s11, q0, hmm.symm, List.take_length]
      repeat' apply And.intro
      all_goals first | assumption | (intro _; assumption) | trivial | (simp -implicitDefEqProofs (contextual := true) (disch := first | assumption | omega) only [go_sem, ↓reduceIte, reduceEqDiff, reduceMul, reduceAdd, reduceDiv, Nat.reduceBEq, reduceLeDiff, reduceToNat, reduceNe, reduceEq, reduceLT, reduceLE, Int.reduceBEq, Int.reduceBNe, m0_2, n0_2, m1_0, n1_0, m2_1, j0, j1, j3, j4, j6, j9, j10, m0_0, n0_0, m0_1, n0_1, m2_0, implies_true, forall_const, false_implies, true_implies]; done) | (intros; contradiction) | trace_state
    · rintro D hD hd E σ ⟨e3, e10, e11, s10, s11, c11_9, c9_8, c5_2, c8_5, c11_10, m0_0, n0_0, m0_1, n0_1, m0_2, n0_2, m1_0, n1_0, m2_0, m2_1, j0, j1, j3, j4, j6, j9, j10⟩
      have hD : D 2 = false := hD
      simp -implicitDefEqProofs (disch := omega) only [go_sem, ↓reduceIte, reduceEqDiff, reduceMul, reduceAdd, reduceDiv, Nat.reduceBEq, reduceLeDiff, reduceToNat, reduceNe, reduceEq, reduceLT, reduceLE, Int.reduceBEq, Int.reduceBNe, e3, e10, e11, s10, s11, hmm.symm, List.take_length]
      repeat' apply And.intro
      all_goals first | assumption | (intro _; assumption) | trivial | (intro h; intros; have hh := (c5_2 h); rw [hD] at hh; cases hh; done) | (intro h; intros; have hh := (c5_2 (c8_5 h)); rw [hD] at hh; cases hh; done) | (intro h; intros; have hh := (c5_2 (c8_5 (c9_8 h))); rw [hD] at hh; cases hh; done) | (intro h; intros; have hh := (c5_2 (c8_5 (c9_8 (c11_9 h)))); rw [hD] at hh; cases hh; done) | (simp -implicitDefEqProofs (contextual := true) (disch := first | assumption | omega) only [go_sem, ↓reduceIte, reduceEqDiff, reduceMul, reduceAdd, reduceDiv, Nat.reduceBEq, reduceLeDiff, reduceToNat, reduceNe, reduceEq, reduceLT, reduceLE, Int.reduceBEq, Int.reduceBNe, m0_2, n0_2, m1_0, n1_0, m2_1, j0, j1, j3, j4, j6, j9, j10, m0_0, n0_0, m0_1, n0_1, m2_0, implies_true, forall_const, false_implies, true_implies]; done) | (intros; contradiction) | trace_state
    · rintro D hD hd E σ ⟨e3, e10, e11, s10, s11, c11_9, c9_8, c5_2, c8_5, c11_10, m0_0, n0_0, m0_1, n0_1, m0_2, n0_2, m1_0, n1_0, m2_0, m2_1, j0, j1, j3, j4, j6, j9, j10⟩
      have hD : D 3 = false := hD
      simp -implicitDefEqProofs (disch := omega) only [go_sem, ↓reduceIte, reduceEqDiff, reduceMul, reduceAdd, reduceDiv, Nat.reduceBEq, reduceLeDiff, reduceToNat, reduceNe, reduceEq, reduceLT, reduceLE, Int.reduceBEq, Int.reduceBNe, e3, e10, e11, s10, s11, hmm.symm, List.take_length]
      repeat' apply And.intro
      all_goals first | assumption | (intro _; assumption) | trivial | (simp -implicitDefEqProofs (contextual := true) (disch := first | assumption | omega) only [go_sem, ↓reduceIte, reduceEqDiff, reduceMul, reduceAdd, reduceDiv, Nat.reduceBEq, reduceLeDiff, reduceToNat, reduceNe, reduceEq, reduceLT, reduceLE, Int.reduceBEq, Int.reduceBNe, m0_2, n0_2, m1_0, n1_0, m2_1, j0, j1, j3, j4, j6, j9, j10, m0_0, n0_0, m0_1, n0_1, m2_0, implies_true, forall_const, false_implies, true_implies]; done) | (intros; contradiction) | trace_state
    · rintro D hD hd E σ ⟨e3, e10, e11, s10, s11, c11_9, c9_8, c5_2, c8_5, c11_10, m0_0, n0_0, m0_1, n0_1, m0_2, n0_2, m1_0, n1_0, m2_0, m2_1, j0, j1, j3, j4, j6, j9, j10⟩
      have hD : D 4 = false := hD
      have d3 : D 3 = true := hd ⟨3, .data⟩ (by simp) rfl
      have q3 := j3 d3
      simp -implicitDefEqProofs (disch := omega) only [go_sem, ↓reduceIte, reduceEqDiff, reduceMul, reduceAdd, reduceDiv, Nat.reduceBEq, reduceLeDiff, reduceToNat, reduceNe, reduceEq, reduceLT, reduceLE, Int.reduceBEq, Int.reduceBNe, e3, e10, e11, s10, s11, q3, hmm.symm, List.take_length]
      repeat' apply And.intro
      all_goals first | assumption | (intro _; assumption) | trivial | (simp -implicitDefEqProofs (contextual := true) (disch := first | assumption | omega) only [go_sem, ↓reduceIte, reduceEqDiff, reduceMul, reduceAdd, reduceDiv, Nat.reduceBEq, reduceLeDiff, reduceToNat, reduceNe, reduceEq, reduceLT, reduceLE, Int.reduceBEq, Int.reduceBNe, m0_2, n0_2, m1_0, n1_0, m2_1, j0, j1, j3, j4, j6, j9, j10, m0_0, n0_0, m0_1, n0_1, m2_0, implies_true, forall_const, false_implies, true_implies]; done) | (intros; contradiction) | trace_state
    · rintro D hD hd E σ ⟨e3, e10, e11, s10, s11, c11_9, c9_8, c5_2, c8_5, c11_10, m0_0, n0_0, m0_1, n0_1, m0_2, n0_2, m1_0, n1_0, m2_0, m2_1, j0, j1, j3, j4, j6, j9, j10⟩
      have hD : D 5 = false := hD
      have d2 : D 2 = true := hd ⟨2, .data⟩ (by simp) rfl
      have d4 : D 4 = true := hd ⟨4, .data⟩ (by simp) rfl
      have q4 := j4 d4
      have g0 := m0_0 d2 hD
      have f0 := n0_0 d2 hD
      simp -implicitDefEqProofs (disch := omega) only [go_sem, ↓reduceIte, reduceEqDiff, reduceMul, reduceAdd, reduceDiv, Nat.reduceBEq, reduceLeDiff, reduceToNat, reduceNe, reduceEq, reduceLT, reduceLE, Int.reduceBEq, Int.reduceBNe, e3, e10, e11, s10, s11, q4, g0, f0, hmm.symm, List.take_length]
      repeat' apply And.intro
      all_goals first | assumption | (intro _; assumption) | trivial | (intro h; intros; have hh := (c8_5 h); rw [hD] at hh; cases hh; done) | (intro h; intros; have hh := (c8_5 (c9_8 h)); rw [hD] at hh; cases hh; done) | (intro h; intros; have hh := (c8_5 (c9_8 (c11_9 h))); rw [hD] at hh; cases hh; done) | (simp -implicitDefEqProofs (contextual := true) (disch := first | assumption | omega) only [go_sem, ↓reduceIte, reduceEqDiff, reduceMul, reduceAdd, reduceDiv, Nat.reduceBEq, reduceLeDiff, reduceToNat, reduceNe, reduceEq, reduceLT, reduceLE, Int.reduceBEq, Int.reduceBNe, m0_2, n0_2, m1_0, n1_0, m2_1, j0, j1, j3, j4, j6, j9, j10, m0_0, n0_0, m0_1, n0_1, m2_0, implies_true, forall_const, false_implies, true_implies]; done) | (intros; contradiction) | trace_state
    · rintro D hD hd E σ ⟨e3, e10, e11, s10, s11, c11_9, c9_8, c5_2, c8_5, c11_10, m0_0, n0_0, m0_1, n0_1, m0_2, n0_2, m1_0, n1_0, m2_0, m2_1, j0, j1, j3, j4, j6, j9, j10⟩
      have hD : D 6 = false := hD
      simp -implicitDefEqProofs (disch := omega) only [go_sem, ↓reduceIte, reduceEqDiff, reduceMul, reduceAdd, reduceDiv, Nat.reduceBEq, reduceLeDiff, reduceToNat, reduceNe, reduceEq, reduceLT, reduceLE, Int.reduceBEq, Int.reduceBNe, e3, e10, e11, s10, s11, hmm.symm, List.take_length]
      repeat' apply And.intro
      all_goals first | assumption | (intro _; assumption) | trivial | (simp -implicitDefEqProofs (contextual := true) (disch := first | assumption | omega) only [go_sem, ↓reduceIte, reduceEqDiff, reduceMul, reduceAdd, reduceDiv, Nat.reduceBEq, reduceLeDiff, reduceToNat, reduceNe, reduceEq, reduceLT, reduceLE, Int.reduceBEq, Int.reduceBNe, m0_2, n0_2, m1_0, n1_0, m2_1, j0, j1, j3, j4, j6, j9, j10, m0_0, n0_0, m0_1, n0_1, m2_0, implies_true, forall_const, false_implies, true_implies]; done) | (intros; contradiction) | trace_state
    · rintro D hD hd E σ ⟨e3, e10, e11, s10, s11, c11_9, c9_8, c5_2, c8_5, c11_10, m0_0, n0_0, m0_1, n0_1, m0_2, n0_2, m1_0, n1_0, m2_0, m2_1, j0, j1, j3, j4, j6, j9, j10⟩
      have hD : D 7 = false := hD
      have d6 : D 6 = true := hd ⟨6, .data⟩ (by simp) rfl
      have q6 := j6 d6
      simp -implicitDefEqProofs (disch := omega) only [go_sem, ↓reduceIte, reduceEqDiff, reduceMul, reduceAdd, reduceDiv, Nat.reduceBEq, reduceLeDiff, reduceToNat, reduceNe, reduceEq, reduceLT, reduceLE, Int.reduceBEq, Int.reduceBNe, e3, e10, e11, s10, s11, q6, hmm.symm, List.take_length]
      repeat' apply And.intro
      all_goals first | assumption | (intro _; assumption) | trivial | (simp -implicitDefEqProofs (contextual := true) (disch := first | assumption | omega) only [go_sem, ↓reduceIte, reduceEqDiff, reduceMul, reduceAdd, reduceDiv, Nat.reduceBEq, reduceLeDiff, reduceToNat, reduceNe, reduceEq, reduceLT, reduceLE, Int.reduceBEq, Int.reduceBNe, m0_2, n0_2, m1_0, n1_0, m2_1, j0, j1, j3, j4, j6, j9, j10, m0_0, n0_0, m0_1, n0_1, m2_0, implies_true, forall_const, false_implies, true_implies]; done) | (intros; contradiction) | trace_state
    · rintro D hD hd E σ ⟨e3, e10, e11, s10, s11, c11_9, c9_8, c5_2, c8_5, c11_10, m0_0, n0_0, m0_1, n0_1, m0_2, n0_2, m1_0, n1_0, m2_0, m2_1, j0, j1, j3, j4, j6, j9, j10⟩
      have hD : D 8 = false := hD
      have d5 : D 5 = true := hd ⟨5, .data⟩ (by simp) rfl
      have d7 : D 7 = true := hd ⟨7, .data⟩ (by simp) rfl
      have g0 := m0_1 d5 hD
      have f0 := n0_1 d5 hD
      have g1 := m1_0 d7
      have f1 := n1_0 d7
      simp -implicitDefEqProofs (disch := omega) only [go_sem, ↓reduceIte, reduceEqDiff, reduceMul, reduceAdd, reduceDiv, Nat.reduceBEq, reduceLeDiff, reduceToNat, reduceNe, reduceEq, reduceLT, reduceLE, Int.reduceBEq, Int.reduceBNe, e3, e10, e11, s10, s11, g0, f0, g1, f1, hmm.symm, List.take_length]
      repeat' apply And.intro
      all_goals first | assumption | (intro _; assumption) | trivial | (intro h; intros; have hh := (c9_8 h); rw [hD] at hh; cases hh; done) | (intro h; intros; have hh := (c9_8 (c11_9 h)); rw [hD] at hh; cases hh; done) | (intro _ h; rw [d5] at h; cases h; done) | (simp -implicitDefEqProofs (contextual := true) (disch := first | assumption | omega) only [go_sem, ↓reduceIte, reduceEqDiff, reduceMul, reduceAdd, reduceDiv, Nat.reduceBEq, reduceLeDiff, reduceToNat, reduceNe, reduceEq, reduceLT, reduceLE, Int.reduceBEq, Int.reduceBNe, m0_2, n0_2, m1_0, n1_0, m2_1, j0, j1, j3, j4, j6, j9, j10, m0_0, n0_0, m0_1, n0_1, m2_0, implies_true, forall_const, false_implies, true_implies]; done) | (intros; contradiction) | trace_state
    · rintro D hD hd E σ ⟨e3, e10, e11, s10, s11, c11_9, c9_8, c5_2, c8_5, c11_10, m0_0, n0_0, m0_1, n0_1, m0_2, n0_2, m1_0, n1_0, m2_0, m2_1, j0, j1, j3, j4, j6, j9, j10⟩
      have hD : D 9 = false := hD
      have d1 : D 1 = true := hd ⟨1, .data⟩ (by simp) rfl
      have q1 := j1 d1
      have d8 : D 8 = true := hd ⟨8, .data⟩ (by simp) rfl
      have g0 := m0_2 d8
      have f0 := n0_2 d8
      simp -implicitDefEqProofs (disch := omega) only [go_sem, ↓reduceIte, reduceEqDiff, reduceMul, reduceAdd, reduceDiv, Nat.reduceBEq, reduceLeDiff, reduceToNat, reduceNe, reduceEq, reduceLT, reduceLE, Int.reduceBEq, Int.reduceBNe, e3, e10, e11, s10, s11, q1, g0, f0, hmm.symm, List.take_length]
      repeat' apply And.intro
      all_goals first | assumption | (intro _; assumption) | trivial | (intro h; intros; have hh := (c11_9 h); rw [hD] at hh; cases hh; done) | (intro _ h; rw [(c8_5 d8)] at h; cases h; done) | (intro _ h; rw [d8] at h; cases h; done) | (simp -implicitDefEqProofs (contextual := true) (disch := first | assumption | omega) only [go_sem, ↓reduceIte, reduceEqDiff, reduceMul, reduceAdd, reduceDiv, Nat.reduceBEq, reduceLeDiff, reduceToNat, reduceNe, reduceEq, reduceLT, reduceLE, Int.reduceBEq, Int.reduceBNe, m0_2, n0_2, m1_0, n1_0, m2_1, j0, j1, j3, j4, j6, j9, j10, m0_0, n0_0, m0_1, n0_1, m2_0, implies_true, forall_const, false_implies, true_implies]; done) | (intros; contradiction) | trace_state
    · rintro D hD hd E σ ⟨e3, e10, e11, s10, s11, c11_9, c9_8, c5_2, c8_5, c11_10, m0_0, n0_0, m0_1, n0_1, m0_2, n0_2, m1_0, n1_0, m2_0, m2_1, j0, j1, j3, j4, j6, j9, j10⟩
      have hD : D 10 = false := hD
      simp -implicitDefEqProofs (disch := omega) only [go_sem, ↓reduceIte, reduceEqDiff, reduceMul, reduceAdd, reduceDiv, Nat.reduceBEq, reduceLeDiff, reduceToNat, reduceNe, reduceEq, reduceLT, reduceLE, Int.reduceBEq, Int.reduceBNe, e3, e10, e11, s10, s11, hmm.symm, List.take_length]
      repeat' apply And.intro
      all_goals first | assumption | (intro _; assumption) | trivial | (intro h; intros; have hh := (c11_10 h); rw [hD] at hh; cases hh; done) | (simp -implicitDefEqProofs (contextual := true) (disch := first | assumption | omega) only [go_sem, ↓reduceIte, reduceEqDiff, reduceMul, reduceAdd, reduceDiv, Nat.reduceBEq, reduceLeDiff, reduceToNat, reduceNe, reduceEq, reduceLT, reduceLE, Int.reduceBEq, Int.reduceBNe, m0_2, n0_2, m1_0, n1_0, m2_1, j0, j1, j3, j4, j6, j9, j10, m0_0, n0_0, m0_1, n0_1, m2_0, implies_true, forall_const, false_implies, true_implies]; done) | (intros; contradiction) | trace_state
    · rintro D hD hd E σ ⟨e3, e10, e11, s10, s11, c11_9, c9_8, c5_2, c8_5, c11_10, m0_0, n0_0, m0_1, n0_1, m0_2, n0_2, m1_0, n1_0, m2_0, m2_1, j0, j1, j3, j4, j6, j9, j10⟩
      have hD : D 11 = false := hD
      have d9 : D 9 = true := hd ⟨9, .data⟩ (by simp) rfl
      have q9 := j9 d9
      have d10 : D 10 = true := hd ⟨10, .data⟩ (by simp) rfl
      have q10 := j10 d10
      have g2 := m2_0 d10 hD
      simp -implicitDefEqProofs (disch := omega) only [go_sem, ↓reduceIte, reduceEqDiff, reduceMul, reduceAdd, reduceDiv, Nat.reduceBEq, reduceLeDiff, reduceToNat, reduceNe, reduceEq, reduceLT, reduceLE, Int.reduceBEq, Int.reduceBNe, e3, e10, e11, s10, s11, q9, q10, g2, hmm.symm, List.take_length]
      repeat' apply And.intro
      all_goals first | assumption | (intro _; assumption) | trivial | (intro _ h; rw [(c8_5 (c9_8 d9))] at h; cases h; done) | (intro _ h; rw [(c9_8 d9)] at h; cases h; done) | (simp -implicitDefEqProofs (contextual := true) (disch := first | assumption | omega) only [go_sem, ↓reduceIte, reduceEqDiff, reduceMul, reduceAdd, reduceDiv, Nat.reduceBEq, reduceLeDiff, reduceToNat, reduceNe, reduceEq, reduceLT, reduceLE, Int.reduceBEq, Int.reduceBNe, m0_2, n0_2, m1_0, n1_0, m2_1, j0, j1, j3, j4, j6, j9, j10, m0_0, n0_0, m0_1, n0_1, m2_0, implies_true, forall_const, false_implies, true_implies]; done) | (intros; contradiction) | trace_state
  · rintro D E σ hD ⟨e3, e10, e11, s10, s11, c11_9, c9_8, c5_2, c8_5, c11_10, m0_0, n0_0, m0_1, n0_1, m0_2, n0_2, m1_0, n1_0, m2_0, m2_1, j0, j1, j3, j4, j6, j9, j10⟩
    have g0 := m0_2 (hD 8 (by decide))
    have f0 := n0_2 (hD 8 (by decide))
    have g1 := m1_0 (hD 7 (by decide))
    have f1 := n1_0 (hD 7 (by decide))
    have g2 := m2_1 (hD 11 (by decide))
    have q0 := j0 (hD 0 (by decide))
    have q1 := j1 (hD 1 (by decide))
    have q3 := j3 (hD 3 (by decide))
    have q4 := j4 (hD 4 (by decide))
    have q6 := j6 (hD 6 (by decide))
    have q9 := j9 (hD 9 (by decide))
    have q10 := j10 (hD 10 (by decide))
    clear c11_9 c9_8 c5_2 c8_5 c11_10 m0_0 n0_0 m0_1 n0_1 m0_2 n0_2 m1_0 n1_0 m2_0 m2_1 j0 j1 j3 j4 j6 j9 j10 hD
    simp -implicitDefEqProofs (disch := omega) only [go_sem, ↓reduceIte, reduceEqDiff, reduceMul, reduceAdd, reduceDiv, Nat.reduceBEq, reduceLeDiff, reduceToNat, reduceNe, reduceEq, reduceLT, reduceLE, Int.reduceBEq, Int.reduceBNe, e3, e10, e11, s10, s11, g0, g2, q10]
    refine callC_at k1 ?_
    simp -implicitDefEqProofs (disch := omega) only [go_sem, ↓reduceIte, reduceEqDiff, reduceMul, reduceAdd, reduceDiv, Nat.reduceBEq, reduceLeDiff, reduceToNat, reduceNe, reduceEq, reduceLT, reduceLE, Int.reduceBEq, Int.reduceBNe, e3, e10, e11, s10, s11, g0, g2, q10]
    refine callC_sem rfl ?_
    refine freeze_op [20972064] ?_
    simp -implicitDefEqProofs (disch := omega) only [go_sem, ↓reduceIte, reduceEqDiff, reduceMul, reduceAdd, reduceDiv, Nat.reduceBEq, reduceLeDiff, reduceToNat, reduceNe, reduceEq, reduceLT, reduceLE, Int.reduceBEq, Int.reduceBNe, e3, e10, e11, s10, s11, g0, g2, q10, List.take_length, hml]
    refine callC_at k2 ?_
    simp -implicitDefEqProofs (disch := omega) only [go_sem, ↓reduceIte, reduceEqDiff, reduceMul, reduceAdd, reduceDiv, Nat.reduceBEq, reduceLeDiff, reduceToNat, reduceNe, reduceEq, reduceLT, reduceLE, Int.reduceBEq, Int.reduceBNe, e3, e10, e11, s10, s11, g0, g2, q10, List.take_length, hml]
    refine branch_r (by omega) ?_
    simp -implicitDefEqProofs (disch := omega) only [go_sem, ↓reduceIte, reduceEqDiff, reduceMul, reduceAdd, reduceDiv, Nat.reduceBEq, reduceLeDiff, reduceToNat, reduceNe, reduceEq, reduceLT, reduceLE, Int.reduceBEq, Int.reduceBNe, e3, e10, e11, s10, s11, g0, g2, q10, List.take_length, hml]
    refine branch_r (by omega) ?_
    simp -implicitDefEqProofs (disch := omega) only [go_sem, ↓reduceIte, reduceEqDiff, reduceMul, reduceAdd, reduceDiv, Nat.reduceBEq, reduceLeDiff, reduceToNat, reduceNe, reduceEq, reduceLT, reduceLE, Int.reduceBEq, Int.reduceBNe, e3, e10, e11, s10, s11, g0, g2, q10, List.take_length, hml]
    refine loopC_mk (fun n E σ => ∃ v : Nat, v + n = 8 ∧ E 3 = I cu ∧ E 10 = .ptr 20971680 2 0 0 ∧ E 11 = .ptr 20971696 5 0 0 ∧ E 12 = .ptr 20971712 2 0 0 ∧ E 13 = .ptr 20971728 2 0 0 ∧ E 15 = .ptr 20971760 2 0 0 ∧ E 17 = I v ∧ σ 20971680 = some ⟨26, 2, [LP K l]⟩ ∧ σ 20971696 = some ⟨30, 5, [CH c]⟩ ∧ σ 20971712 = some ⟨26, 2, [LP K m]⟩ ∧ σ 20971728 = some ⟨35, 2, [RP (s, S2)]⟩ ∧ σ 20971760 = some ⟨35, 2, [RP (t, T2)]⟩) 8 ⟨0, by omega, ?_⟩ ?_
    · simp -implicitDefEqProofs (disch := omega) only [go_sem, ↓reduceIte, reduceEqDiff, reduceMul, reduceAdd, reduceDiv, Nat.reduceBEq, reduceLeDiff, reduceToNat, reduceNe, reduceEq, reduceLT, reduceLE, Int.reduceBEq, Int.reduceBNe, e3, e10, e11, s10, s11, g0, g2, q10, List.take_length, hml]
      simp
    clear e3 e10 e11 s10 s11 g0 g1 g2 f0 f1 q0 q1 q3 q4 q6 q9 q10 E σ
    rintro n E σ ⟨w, hw, e3, e10, e11, e12, e13, e15, e17, s10, s11, s12, s13, s15⟩
    simp -implicitDefEqProofs (disch := omega) only [go_sem, ↓reduceIte, reduceEqDiff, reduceMul, reduceAdd, reduceDiv, Nat.reduceBEq, reduceLeDiff, reduceToNat, reduceNe, reduceEq, reduceLT, reduceLE, Int.reduceBEq, Int.reduceBNe, e3, e10, e11, e12, e13, e15, e17, s10, s11, s12, s13, s15]
    refine branch_mk (fun hc => ?_) (fun hc => ?_)
    · have b1 := hsb w (by omega)
      have b2 := hgs w (by omega)
      unfold ctr at b2
      simp -implicitDefEqProofs (disch := omega) only [go_sem, ↓reduceIte, reduceEqDiff, reduceMul, reduceAdd, reduceDiv, Nat.reduceBEq, reduceLeDiff, reduceToNat, reduceNe, reduceEq, reduceLT, reduceLE, Int.reduceBEq, Int.reduceBNe, e3, e10, e11, e12, e13, e15, e17, s10, s11, s12, s13, s15]
      refine branch_mk (fun hp => ?_) (fun hp => ?_)
      · rw [if_pos (show c.p.toNat = w by omega), if_neg (show ¬ c.q.toNat = w by omega)] at b2
        simp -implicitDefEqProofs (disch := omega) only [go_sem, ↓reduceIte, reduceEqDiff, reduceMul, reduceAdd, reduceDiv, Nat.reduceBEq, reduceLeDiff, reduceToNat, reduceNe, reduceEq, reduceLT, reduceLE, Int.reduceBEq, Int.reduceBNe, e3, e10, e11, e12, e13, e15, e17, s10, s11, s12, s13, s15]
        refine branch_mk (fun hq => absurd hq (by omega)) (fun hq => ?_)
        simp -implicitDefEqProofs (disch := omega) only [go_sem, ↓reduceIte, reduceEqDiff, reduceMul, reduceAdd, reduceDiv, Nat.reduceBEq, reduceLeDiff, reduceToNat, reduceNe, reduceEq, reduceLT, reduceLE, Int.reduceBEq, Int.reduceBNe, e3, e10, e11, e12, e13, e15, e17, s10, s11, s12, s13, s15]
        refine branch_mk (fun hn => absurd (show gd t w = gd s w - c.a by omega) hn) (fun hn => ?_)
        simp -implicitDefEqProofs (disch := omega) only [go_sem, ↓reduceIte, reduceEqDiff, reduceMul, reduceAdd, reduceDiv, Nat.reduceBEq, reduceLeDiff, reduceToNat, reduceNe, reduceEq, reduceLT, reduceLE, Int.reduceBEq, Int.reduceBNe, e3, e10, e11, e12, e13, e15, e17, s10, s11, s12, s13, s15]
        refine againQ_mk (n - 1) (by omega) ⟨w + 1, by omega, ?_⟩
        simp -implicitDefEqProofs (disch := omega) only [go_sem, ↓reduceIte, reduceEqDiff, reduceMul, reduceAdd, reduceDiv, Nat.reduceBEq, reduceLeDiff, reduceToNat, reduceNe, reduceEq, reduceLT, reduceLE, Int.reduceBEq, Int.reduceBNe, e3, e10, e11, e12, e13, e15, e17, s10, s11, s12, s13, s15]
        simp
      · rw [if_neg (show ¬ c.p.toNat = w by omega)] at b2
        simp -implicitDefEqProofs (disch := omega) only [go_sem, ↓reduceIte, reduceEqDiff, reduceMul, reduceAdd, reduceDiv, Nat.reduceBEq, reduceLeDiff, reduceToNat, reduceNe, reduceEq, reduceLT, reduceLE, Int.reduceBEq, Int.reduceBNe, e3, e10, e11, e12, e13, e15, e17, s10, s11, s12, s13, s15]
        refine branch_mk (fun hq => ?_) (fun hq => ?_)
        · rw [if_pos (show c.q.toNat = w by omega)] at b2
          simp -implicitDefEqProofs (disch := omega) only [go_sem, ↓reduceIte, reduceEqDiff, reduceMul, reduceAdd, reduceDiv, Nat.reduceBEq, reduceLeDiff, reduceToNat, reduceNe, reduceEq, reduceLT, reduceLE, Int.reduceBEq, Int.reduceBNe, e3, e10, e11, e12, e13, e15, e17, s10, s11, s12, s13, s15]
          refine branch_mk (fun hn => absurd (show gd t w = gd s w + c.a by omega) hn) (fun hn => ?_)
          simp -implicitDefEqProofs (disch := omega) only [go_sem, ↓reduceIte, reduceEqDiff, reduceMul, reduceAdd, reduceDiv, Nat.reduceBEq, reduceLeDiff, reduceToNat, reduceNe, reduceEq, reduceLT, reduceLE, Int.reduceBEq, Int.reduceBNe, e3, e10, e11, e12, e13, e15, e17, s10, s11, s12, s13, s15]
          refine againQ_mk (n - 1) (by omega) ⟨w + 1, by omega, ?_⟩
          simp -implicitDefEqProofs (disch := omega) only [go_sem, ↓reduceIte, reduceEqDiff, reduceMul, reduceAdd, reduceDiv, Nat.reduceBEq, reduceLeDiff, reduceToNat, reduceNe, reduceEq, reduceLT, reduceLE, Int.reduceBEq, Int.reduceBNe, e3, e10, e11, e12, e13, e15, e17, s10, s11, s12, s13, s15]
          simp
        · rw [if_neg (show ¬ c.q.toNat = w by omega)] at b2
          simp -implicitDefEqProofs (disch := omega) only [go_sem, ↓reduceIte, reduceEqDiff, reduceMul, reduceAdd, reduceDiv, Nat.reduceBEq, reduceLeDiff, reduceToNat, reduceNe, reduceEq, reduceLT, reduceLE, Int.reduceBEq, Int.reduceBNe, e3, e10, e11, e12, e13, e15, e17, s10, s11, s12, s13, s15]
          refine branch_mk (fun hn => absurd (show gd t w = gd s w by omega) hn) (fun hn => ?_)
          simp -implicitDefEqProofs (disch := omega) only [go_sem, ↓reduceIte, reduceEqDiff, reduceMul, reduceAdd, reduceDiv, Nat.reduceBEq, reduceLeDiff, reduceToNat, reduceNe, reduceEq, reduceLT, reduceLE, Int.reduceBEq, Int.reduceBNe, e3, e10, e11, e12, e13, e15, e17, s10, s11, s12, s13, s15]
          refine againQ_mk (n - 1) (by omega) ⟨w + 1, by omega, ?_⟩
          simp -implicitDefEqProofs (disch := omega) only [go_sem, ↓reduceIte, reduceEqDiff, reduceMul, reduceAdd, reduceDiv, Nat.reduceBEq, reduceLeDiff, reduceToNat, reduceNe, reduceEq, reduceLT, reduceLE, Int.reduceBEq, Int.reduceBNe, e3, e10, e11, e12, e13, e15, e17, s10, s11, s12, s13, s15]
          simp
    · obtain rfl : w = 8 := by omega
      simp -implicitDefEqProofs (disch := omega) only [go_sem, ↓reduceIte, reduceEqDiff, reduceMul, reduceAdd, reduceDiv, Nat.reduceBEq, reduceLeDiff, reduceToNat, reduceNe, reduceEq, reduceLT, reduceLE, Int.reduceBEq, Int.reduceBNe, e3, e10, e11, e12, e13, e15, e17, s10, s11, s12, s13, s15]
      refine callC_at hpk ?_
      simp -implicitDefEqProofs (disch := omega) only [go_sem, ↓reduceIte, reduceEqDiff, reduceMul, reduceAdd, reduceDiv, Nat.reduceBEq, reduceLeDiff, reduceToNat, reduceNe, reduceEq, reduceLT, reduceLE, Int.reduceBEq, Int.reduceBNe, e3, e10, e11, e12, e13, e15, e17, s10, s11, s12, s13, s15]
      refine callC_at a1 ?_
      simp -implicitDefEqProofs (disch := omega) only [go_sem, ↓reduceIte, reduceEqDiff, reduceMul, reduceAdd, reduceDiv, Nat.reduceBEq, reduceLeDiff, reduceToNat, reduceNe, reduceEq, reduceLT, reduceLE, Int.reduceBEq, Int.reduceBNe, e3, e10, e11, e12, e13, e15, e17, s10, s11, s12, s13, s15]
      refine callC_at a2 ?_
      obtain ⟨uh, ul', us', up⟩ := u
      obtain ⟨vh, vl', vs', vp⟩ := v
      simp only at us uo ul
      subst us
      simp -implicitDefEqProofs (disch := omega) only [go_sem, ↓reduceIte, reduceEqDiff, reduceMul, reduceAdd, reduceDiv, Nat.reduceBEq, reduceLeDiff, reduceToNat, reduceNe, reduceEq, reduceLT, reduceLE, Int.reduceBEq, Int.reduceBNe, e3, e10, e11, e12, e13, e15, e17, s10, s11, s12, s13, s15, str_beq]
      refine callC_at ck ?_
      simp -implicitDefEqProofs (disch := omega) only [go_sem, ↓reduceIte, reduceEqDiff, reduceMul, reduceAdd, reduceDiv, Nat.reduceBEq, reduceLeDiff, reduceToNat, reduceNe, reduceEq, reduceLT, reduceLE, Int.reduceBEq, Int.reduceBNe, e3, e10, e11, e12, e13, e15, e17, s10, s11, s12, s13, s15, str_beq]
      refine branch_mk (fun he => ?_) (fun he => ?_)
      · rw [if_pos he.symm] at uo
        subst uo
        have hvl : (ul' ++ [c]).length = ul'.length + 1 := by simp
        have htk : (ul' ++ [c]).take (ul'.length - 0) = ul' := by simp
        have hgd : gd (ul' ++ [c]) ul'.length = c := by rw [gd_append_right _ _ _ (Nat.le_refl _), Nat.sub_self]; rfl
        simp -implicitDefEqProofs (disch := omega) only [go_sem, ↓reduceIte, reduceEqDiff, reduceMul, reduceAdd, reduceDiv, Nat.reduceBEq, reduceLeDiff, reduceToNat, reduceNe, reduceEq, reduceLT, reduceLE, Int.reduceBEq, Int.reduceBNe, e3, e10, e11, e12, e13, e15, e17, s10, s11, s12, s13, s15, hvl]
        refine branch_l (by omega) ?_
        simp -implicitDefEqProofs (disch := omega) only [go_sem, ↓reduceIte, reduceEqDiff, reduceMul, reduceAdd, reduceDiv, Nat.reduceBEq, reduceLeDiff, reduceToNat, reduceNe, reduceEq, reduceLT, reduceLE, Int.reduceBEq, Int.reduceBNe, e3, e10, e11, e12, e13, e15, e17, s10, s11, s12, s13, s15, hvl, htk]
        refine callC_at (sameCh_ev ul' ul' (by omega) (by omega)) ?_
        rw [decide_eq_true rfl]
        simp -implicitDefEqProofs (disch := omega) only [go_sem, ↓reduceIte, reduceEqDiff, reduceMul, reduceAdd, reduceDiv, Nat.reduceBEq, reduceLeDiff, reduceToNat, reduceNe, reduceEq, reduceLT, reduceLE, Int.reduceBEq, Int.reduceBNe, e3, e10, e11, e12, e13, e15, e17, s10, s11, s12, s13, s15, hvl, htk, hgd]
        have hcc := ch_beq c c
        rw [decide_eq_true rfl] at hcc
        simp -implicitDefEqProofs (disch := omega) only [go_sem, ↓reduceIte, reduceEqDiff, reduceMul, reduceAdd, reduceDiv, Nat.reduceBEq, reduceLeDiff, reduceToNat, reduceNe, reduceEq, reduceLT, reduceLE, Int.reduceBEq, Int.reduceBNe, e3, e10, e11, e12, e13, e15, e17, s10, s11, s12, s13, s15, hvl, htk, hgd, hcc, Tryd.results9]
      · rw [if_neg (fun h => he h.symm)] at uo
        subst uo
        simp -implicitDefEqProofs (disch := omega) only [go_sem, ↓reduceIte, reduceEqDiff, reduceMul, reduceAdd, reduceDiv, Nat.reduceBEq, reduceLeDiff, reduceToNat, reduceNe, reduceEq, reduceLT, reduceLE, Int.reduceBEq, Int.reduceBNe, e3, e10, e11, e12, e13, e15, e17, s10, s11, s12, s13, s15]
        refine callC_at (sameCh_ev vl' vl' (by omega) (by omega)) ?_
        rw [decide_eq_true rfl]
        simp -implicitDefEqProofs (disch := omega) only [go_sem, ↓reduceIte, reduceEqDiff, reduceMul, reduceAdd, reduceDiv, Nat.reduceBEq, reduceLeDiff, reduceToNat, reduceNe, reduceEq, reduceLT, reduceLE, Int.reduceBEq, Int.reduceBNe, Tryd.results9]
end Go.Proofs.YtgbcfpcjljhijaaDoor
set_option maxRecDepth 100000
namespace Go.Proofs.YtgbcfpcjljhijaaDoor
open Go.Vai Go Go.Proofs
open Nat (reduceEqDiff reduceMul reduceAdd reduceDiv reduceLeDiff)
open Int (reduceToNat reduceNe reduceEq reduceLT reduceLE)
theorem auditGrows_lifted (os : Os) (started : os.Started) (H : Type) (enc : TypeId × Value → H) :
    ReturnsInHanded {} Tryd.checked os 9 .any (fun w args => (Rows.auditGrowsSpec.pre enc Tryd.prog Tryd.f9 [] false w args ∧ laidMetH Tryd.prog laid3 w) ∧ sizedMet enc Tryd.prog Tryd.f9 (OpenSpec.ofChange Rows.auditGrowsSpec) false w args)
      (Rows.auditGrowsSpec.post enc Tryd.prog Tryd.f9 false true false false) :=
  liftedG (C := Tryd.checked) (tb := 4) (ps := [OI, OFL, OFi, OI]) (X := fun w _ => laidMetH Tryd.prog laid3 w) (fun _ _ _ hh h => h.of_heap hh) own3 started (by kernel_rfl) Tryd.func9
    (ChangeSpec.witness_shaped (enc := enc) (C := Tryd.checked) (os := os) (X := fun w _ => laidMetH Tryd.prog laid3 w) false (World.doorLaid Tryd.prog 14 os) #[.int .i64 0, .slice none 0 0, .agg #[.int .i64 0, .int .i64 0, .int .i64 0, .int .i64 0, .int .i64 0], .int .i64 0] 8 rfl (World.shaped_of_RefB (by kernel_rfl) (by kernel_rfl)) (by kernel_rfl) (by kernel_rfl) (by kernel_rfl) (door_met os _))
    laidOut3 (by kernel_rfl) (by kernel_rfl) (by kernel_rfl) rfl (len_4 fun _ _ _ _ => rfl)
    (fun w => ⟨o_int (by kernel_rfl), o_fives, o_five, o_int (by kernel_rfl), trivial⟩)
    (allP_4 fun a0 a1 a2 a3 h0 h1 h2 h3 => by
      obtain ⟨x0, hx0, rfl⟩ := h0
      obtain ⟨x1, hx1, hr1, rfl⟩ := h1
      obtain ⟨x2, hx2, rfl⟩ := h2
      obtain ⟨x3, hx3, rfl⟩ := h3
      exact grows_ev x0 x1 x2 x3 hx0 hx1 hr1 hx2 hx3)
    (fun _ _ h => gok h)
theorem auditGrows_row : Rows.AuditGrowsSaid :=
  OpenClaim.holds_of_wide 9 Tryd.f9 rfl rfl rfl rfl rfl rfl rfl ⟨rfl, rfl, rfl, rfl, rfl⟩ rfl rfl rfl rfl rfl (by kernel_rfl) Tryd.func9 (by kernel_rfl)
    (of_decide_eq_true (by kernel_rfl)) (by unfold Func.isWrapper; first | (rw [if_pos (by decide +kernel)]; kernel_rfl) | (rw [if_neg (by decide +kernel)]; exact ⟨rfl, rfl⟩))
    (fun os started H enc _ => auditGrows_lifted os started H enc)
theorem auditGrows_holds : Rows.AuditGrowsCardSaid :=
  Claim7.holds_tied_plain_at .later [] [.data] true (true, "15e72945ea0d842684219eb61c4c3078e08fef8eedac21bc7f2d20fbaca9026f") false
    auditGrows_row (fun _ h => by cases h) (by kernel_rfl) (fun _ h => by cases h) auditGrows_row_tie rfl ⟨rfl, rfl⟩ (by kernel_rfl) rfl
    (fun f fn hf hfn => by
      obtain rfl : f = 9 := Option.some.inj ((show Tryd.prog.funcNamed "dialtone/dialtonelaw40.AuditGrows" = some 9 by kernel_rfl).symm.trans hf) |>.symm
      obtain rfl : fn = Tryd.f9 := (Option.some.inj (Tryd.func9.symm.trans hfn)).symm
      exact ⟨by kernel_rfl, fun j t ht => by
          rw [Tryd.params9] at ht
          rcases j with _ | j
          · obtain rfl : t = 3 := by simpa using ht.symm
            exact (show Tryd.prog.wantsStandIn 3 = false by kernel_rfl)
          rcases j with _ | j
          · obtain rfl : t = 22 := by simpa using ht.symm
            exact (show Tryd.prog.wantsStandIn 22 = false by kernel_rfl)
          rcases j with _ | j
          · obtain rfl : t = 68 := by simpa using ht.symm
            exact (show Tryd.prog.wantsStandIn 68 = false by kernel_rfl)
          rcases j with _ | j
          · obtain rfl : t = 3 := by simpa using ht.symm
            exact (show Tryd.prog.wantsStandIn 3 = false by kernel_rfl)
          simp at ht⟩)
    (by kernel_rfl)
#print axioms auditGrows_holds
end Go.Proofs.YtgbcfpcjljhijaaDoor

/- Chapter 40, AuditTotals: the Sums of a seal are the sums of all charges, and add up to 0; they are what all customers' charges come to together. Conditions: the package variable digest.round reads as the program's text lays it (tied). -/
import Derived.Test.YtgbcfpcjljhijaaDoorKI
set_option linter.unusedVariables false
set_option linter.unusedSimpArgs false
set_option maxRecDepth 100000
namespace Go.Proofs.YtgbcfpcjljhijaaDoor
open Go.Vai Go Go.Proofs
open Nat (reduceEqDiff reduceMul reduceAdd reduceDiv reduceLeDiff)
open Int (reduceToNat reduceNe reduceEq reduceLT reduceLE)
def wantF (l : List Ch) (n : Nat) : List Int := (List.range 8).map fun j => sumJ j (l.filter fun c => c.h < (n : Int))
theorem wantF_gd (l : List Ch) (n : Nat) {j : Nat} (hj : j < 8) : gd (wantF l n) j = sumJ j (l.filter fun c => c.h < (n : Int)) := by unfold wantF gd; simp [hj]
theorem wantF_length (l : List Ch) (n : Nat) : (wantF l n).length = 8 := by simp [wantF]
def addU (a b : List Int) (v : Nat) : List Int := (List.range 8).map fun j => if j < v then gd a j + gd b j else gd a j
theorem addU_length (a b : List Int) (v : Nat) : (addU a b v).length = 8 := by simp [addU]
theorem addU_gd (a b : List Int) (v : Nat) {j : Nat} (hj : j < 8) : gd (addU a b v) j = if j < v then gd a j + gd b j else gd a j := by unfold addU gd; simp [hj]
theorem addU_set (a b : List Int) (v : Nat) (hv : v < 8) : (addU a b v).set v (gd (addU a b v) v + gd b v) = addU a b (v + 1) := gd_ext (by simp [addU_length]) fun j hj => by
  rw [List.length_set, addU_length] at hj
  rw [gd_set _ _ _ _ (by rw [addU_length]; exact hv), addU_gd _ _ _ hj, addU_gd _ _ _ hv, addU_gd _ _ _ hj]
  by_cases e : j = v
  · subst e; simp
  · simp only [e, if_false, show j < v ↔ j < v + 1 from by omega]
theorem addU_zero {a b : List Int} (h : a.length = 8) : addU a b 0 = a := gd_ext (by rw [addU_length, h]) fun j hj => by
  rw [addU_length] at hj; rw [addU_gd _ _ _ hj]; simp
theorem wantF_step {l : List Ch} (hl : ∀ c ∈ l, c.good) (n : Nat) : addU (wantF l n) (sumsF (ofF l n)) 8 = wantF l (n + 1) := gd_ext (by rw [addU_length, wantF_length]) fun j hj => by
  rw [addU_length] at hj
  rw [addU_gd _ _ _ hj, if_pos hj, wantF_gd _ _ hj, wantF_gd _ _ hj, show gd (sumsF (ofF l n)) j = sumJ j (ofF l n) from sumsF_gd (l := ofF l n) (filter_good hl _) hj]
  have := sumJ_first l j n
  rw [show ((n + 1 : Nat) : Int) = (n : Int) + 1 from by omega]
  exact this.symm
theorem wantF_all {l : List Ch} (hl : ∀ c ∈ l, c.good) : wantF l 64 = sumsF l := gd_ext (by rw [sumsF_len, wantF_length]) fun j hj => by
  rw [wantF_length] at hj
  rw [wantF_gd _ _ hj, sumsF_gd hl hj]
  congr 1
  rw [List.filter_eq_self]
  intro c hc
  obtain ⟨⟨_, _, _, _, _, _, _, h8, _⟩, _⟩ := hl c hc
  simp; omega
theorem wantF_zero {l : List Ch} (hl : ∀ c ∈ l, c.good) : wantF l 0 = List.replicate 8 0 := by
  have h0 : (l.filter fun c => c.h < ((0 : Nat) : Int)) = [] := by
    rw [List.filter_eq_nil_iff]
    intro c hc
    obtain ⟨⟨_, _, _, _, _, _, h7, _⟩, _⟩ := hl c hc
    simp; omega
  unfold wantF; rw [h0]; rfl
theorem wantF_le {l : List Ch} (hl : ∀ c ∈ l, c.good) (hn : l.length ≤ 60) (n : Nat) (j : Nat) (hj : j < 8) : -60000000000 ≤ gd (wantF l n) j ∧ gd (wantF l n) j ≤ 60000000000 := by
  rw [wantF_gd _ _ hj]
  have h1 := sumJ_le (filter_good hl fun c => decide (c.h < (n : Int))) j
  have h2 : (l.filter fun c => decide (c.h < (n : Int))).length ≤ l.length := List.length_filter_le ..
  omega
theorem sumsF_le {l : List Ch} (hl : ∀ c ∈ l, c.good) (hn : l.length ≤ 60) (j : Nat) (hj : j < 8) : -60000000000 ≤ gd (sumsF l) j ∧ gd (sumsF l) j ≤ 60000000000 := by
  rw [sumsF_gd hl hj]
  have h1 := sumJ_le hl j
  omega
def psum (s : List Int) : Nat → Int
  | 0 => 0
  | n + 1 => psum s n + gd s n
theorem psum8 {l : List Ch} (hl : ∀ c ∈ l, c.good) : psum (sumsF l) 8 = 0 := by
  have := sealF_gd8 l hl
  simp only [psum]; omega
theorem psum_le {s : List Int} (h : ∀ j, j < 8 → -60000000000 ≤ gd s j ∧ gd s j ≤ 60000000000) : ∀ n : Nat, n ≤ 8 → -(60000000000 * (n : Int)) ≤ psum s n ∧ psum s n ≤ 60000000000 * (n : Int)
  | 0, _ => by simp [psum]
  | n + 1, hn => by
    have h1 := psum_le h n (by omega)
    have h2 := h n (by omega)
    simp only [psum]; push_cast; omega
set_option maxHeartbeats 4000000 in
theorem totals_ev (key : Int) (x : List Fiv) (hk : R64 key) (hx : x.length ≤ 9223372036854775807) (hr : ∀ y ∈ x, y.r) : Ev Tryd.prog 4 [I key, FL x] (B true) := by
  have hm := made_ev key x hk hx hr
  have hok := made_ok key x
  have hg := madeF_good x
  have hl10 := madeF_len x
  have hks := madeK_size key
  generalize madeK key = K at *
  generalize madeF x = l at *
  have hll : l.length ≤ 9223372036854775807 := by omega
  have hcs : chsOK l = true := by simp only [ledOK, Bool.and_eq_true] at hok; exact hok.2
  have k1 := sealOK_ev K l hll hok
  have k2 := sumsOK_ev l hll hcs
  have hs : (sealT K l).1 = sumsF l := seal_sums K hg (by omega)
  have hsl := sumsF_len l
  have hsb := sumsF_le hg (by omega)
  have hpb := psum_le hsb
  have hps := psum8 hg
  have hw0 := wantF_zero hg
  have hw64 := wantF_all hg
  have hown : ∀ h : Nat, Ev Tryd.prog 17 [CL (ofF l h)] (.tup [SL (sumsF (ofF l h)), I 0]) := fun h =>
    sumsOK_ev (ofF l h) (by have := ofF_len l h; omega) (good_chsOK (by have := ofF_len l h; omega) (filter_good hg _))
  generalize hS : sealT K l = S at *
  obtain ⟨S1, S2⟩ := S
  simp only at hs
  subst hs
  generalize hs : sumsF l = s at *
  refine ev_of Tryd.func4 rfl (by kernel_rfl) mo (Nat.le_of_ble_eq_true rfl) ?_
  simp -implicitDefEqProofs (disch := omega) only [go_sem, ↓reduceIte, reduceEqDiff, reduceMul, reduceAdd, reduceDiv, Nat.reduceBEq, reduceLeDiff, reduceToNat, reduceNe, reduceEq, reduceLT, reduceLE, Int.reduceBEq, Int.reduceBNe, Tryd.ntmps4]
  refine callC_at sane_ev ?_
  simp -implicitDefEqProofs (disch := omega) only [go_sem, ↓reduceIte, reduceEqDiff, reduceMul, reduceAdd, reduceDiv, Nat.reduceBEq, reduceLeDiff, reduceToNat, reduceNe, reduceEq, reduceLT, reduceLE, Int.reduceBEq, Int.reduceBNe]
  refine callC_at hm ?_
  simp -implicitDefEqProofs (disch := omega) only [go_sem, ↓reduceIte, reduceEqDiff, reduceMul, reduceAdd, reduceDiv, Nat.reduceBEq, reduceLeDiff, reduceToNat, reduceNe, reduceEq, reduceLT, reduceLE, Int.reduceBEq, Int.reduceBNe]
  refine callC_at k1 ?_
  simp -implicitDefEqProofs (disch := omega) only [go_sem, ↓reduceIte, reduceEqDiff, reduceMul, reduceAdd, reduceDiv, Nat.reduceBEq, reduceLeDiff, reduceToNat, reduceNe, reduceEq, reduceLT, reduceLE, Int.reduceBEq, Int.reduceBNe]
  refine callC_at k2 ?_
  simp -implicitDefEqProofs (disch := omega) only [go_sem, ↓reduceIte, reduceEqDiff, reduceMul, reduceAdd, reduceDiv, Nat.reduceBEq, reduceLeDiff, reduceToNat, reduceNe, reduceEq, reduceLT, reduceLE, Int.reduceBEq, Int.reduceBNe]
  refine branch_r (by omega) ?_
  simp -implicitDefEqProofs (disch := omega) only [go_sem, ↓reduceIte, reduceEqDiff, reduceMul, reduceAdd, reduceDiv, Nat.reduceBEq, reduceLeDiff, reduceToNat, reduceNe, reduceEq, reduceLT, reduceLE, Int.reduceBEq, Int.reduceBNe]
  refine callC_at (intsR_ev s s (by omega) (by omega)) ?_
  rw [decide_eq_true rfl]
  simp -implicitDefEqProofs (disch := omega) only [go_sem, ↓reduceIte, reduceEqDiff, reduceMul, reduceAdd, reduceDiv, Nat.reduceBEq, reduceLeDiff, reduceToNat, reduceNe, reduceEq, reduceLT, reduceLE, Int.reduceBEq, Int.reduceBNe]
  refine loopC_mk (fun n E σ => ∃ v : Nat, v + n = 8 ∧ E 6 = .ptr 10485856 2 0 0 ∧ E 9 = SL s ∧ E 11 = I (psum s v) ∧ E 12 = .own 10486640 1 0 8 ∧ E 13 = I v ∧ σ 10485856 = some ⟨26, 2, [LP K l]⟩ ∧ σ 10486640 = some ⟨3, 1, (List.replicate 8 0).map I⟩) 8 ⟨0, by omega, ?_⟩ ?_
  · simp -implicitDefEqProofs (disch := omega) only [go_sem, ↓reduceIte, reduceEqDiff, reduceMul, reduceAdd, reduceDiv, Nat.reduceBEq, reduceLeDiff, reduceToNat, reduceNe, reduceEq, reduceLT, reduceLE, Int.reduceBEq, Int.reduceBNe, psum]
    exact ⟨rfl, rfl⟩
  rintro n E σ ⟨v, hv, h6, h9, h11, h12, h13, s6, s55⟩
  simp -implicitDefEqProofs (disch := omega) only [go_sem, ↓reduceIte, reduceEqDiff, reduceMul, reduceAdd, reduceDiv, Nat.reduceBEq, reduceLeDiff, reduceToNat, reduceNe, reduceEq, reduceLT, reduceLE, Int.reduceBEq, Int.reduceBNe, h6, h9, h11, h12, h13, s6, s55]
  refine branch_mk (fun hc => ?_) (fun hc => ?_)
  · have b1 := hpb v (by omega)
    have b2 := hsb v (by omega)
    simp -implicitDefEqProofs (disch := omega) only [go_sem, ↓reduceIte, reduceEqDiff, reduceMul, reduceAdd, reduceDiv, Nat.reduceBEq, reduceLeDiff, reduceToNat, reduceNe, reduceEq, reduceLT, reduceLE, Int.reduceBEq, Int.reduceBNe, h6, h9, h11, h12, h13, s6, s55]
    refine againQ_mk (n - 1) (by omega) ⟨v + 1, by omega, ?_⟩
    rw [psum]
    simp -implicitDefEqProofs (disch := omega) only [go_sem, ↓reduceIte, reduceEqDiff, reduceMul, reduceAdd, reduceDiv, Nat.reduceBEq, reduceLeDiff, reduceToNat, reduceNe, reduceEq, reduceLT, reduceLE, Int.reduceBEq, Int.reduceBNe, h6, h9, h11, h12, h13, s6, s55]
    simp
  obtain rfl : v = 8 := by omega
  rw [hps] at h11
  simp -implicitDefEqProofs (disch := omega) only [go_sem, ↓reduceIte, reduceEqDiff, reduceMul, reduceAdd, reduceDiv, Nat.reduceBEq, reduceLeDiff, reduceToNat, reduceNe, reduceEq, reduceLT, reduceLE, Int.reduceBEq, Int.reduceBNe, h6, h9, h11, h12, h13, s6, s55]
  refine loopC_mk (fun n E σ => ∃ v : Nat, v + n = 64 ∧ E 6 = .ptr 10485856 2 0 0 ∧ E 9 = SL s ∧ E 11 = I 0 ∧ E 12 = .own 10486640 1 0 8 ∧ E 14 = I v ∧ σ 10485856 = some ⟨26, 2, [LP K l]⟩ ∧ σ 10486640 = some ⟨3, 1, (wantF l v).map I⟩) 64 ⟨0, by omega, ?_⟩ ?_
  · rw [hw0]
    simp -implicitDefEqProofs (disch := omega) only [go_sem, ↓reduceIte, reduceEqDiff, reduceMul, reduceAdd, reduceDiv, Nat.reduceBEq, reduceLeDiff, reduceToNat, reduceNe, reduceEq, reduceLT, reduceLE, Int.reduceBEq, Int.reduceBNe, h6, h9, h11, h12, h13, s6, s55]
    simp
  clear h6 h9 h11 h12 h13 s6 s55 hc E σ hv n
  rintro n E σ ⟨v, hv, h6, h9, h11, h12, h14, s6, s55⟩
  simp -implicitDefEqProofs (disch := omega) only [go_sem, ↓reduceIte, reduceEqDiff, reduceMul, reduceAdd, reduceDiv, Nat.reduceBEq, reduceLeDiff, reduceToNat, reduceNe, reduceEq, reduceLT, reduceLE, Int.reduceBEq, Int.reduceBNe, h6, h9, h11, h12, h14, s6, s55]
  refine branch_mk (fun hc => ?_) (fun hc => ?_)
  · have hwl := wantF_length l v
    have hwst := wantF_step hg v
    have hwb := wantF_le hg (by omega) v
    generalize hw : wantF l v = w at *
    simp -implicitDefEqProofs (disch := omega) only [go_sem, ↓reduceIte, reduceEqDiff, reduceMul, reduceAdd, reduceDiv, Nat.reduceBEq, reduceLeDiff, reduceToNat, reduceNe, reduceEq, reduceLT, reduceLE, Int.reduceBEq, Int.reduceBNe, h6, h9, h11, h12, h14, s6, s55]
    refine loopC_mk (fun n E σ => ∃ u : Nat, u + n = l.length ∧ E 6 = .ptr 10485856 2 0 0 ∧ E 9 = SL s ∧ E 11 = I 0 ∧ E 12 = .own 10486640 1 0 8 ∧ E 14 = I v ∧ E 15 = .own 10486000 5 0 (ofF (l.take u) v).length ∧ E 16 = I u ∧ σ 10485856 = some ⟨26, 2, [LP K l]⟩ ∧ σ 10486640 = some ⟨3, 1, w.map I⟩ ∧ σ 10486000 = some ⟨30, 5, (ofF (l.take u) v).map CH⟩) l.length ⟨0, by omega, ?_⟩ ?_
    · simp -implicitDefEqProofs (disch := omega) only [go_sem, ↓reduceIte, reduceEqDiff, reduceMul, reduceAdd, reduceDiv, Nat.reduceBEq, reduceLeDiff, reduceToNat, reduceNe, reduceEq, reduceLT, reduceLE, Int.reduceBEq, Int.reduceBNe, h6, h9, h11, h12, h14, s6, s55, ofF]
      simp
    clear h6 h9 h11 h12 h14 s6 s55 E σ
    rintro m E σ ⟨u, hu, h6, h9, h11, h12, h14, h15, h16, s6, s55, s15⟩
    have hol : (ofF (l.take u) v).length ≤ 1000 := by
      have := List.length_filter_le (fun c : Ch => decide (c.h = v)) (l.take u)
      rw [List.length_take] at this; unfold ofF; omega
    simp -implicitDefEqProofs (disch := omega) only [go_sem, ↓reduceIte, reduceEqDiff, reduceMul, reduceAdd, reduceDiv, Nat.reduceBEq, reduceLeDiff, reduceToNat, reduceNe, reduceEq, reduceLT, reduceLE, Int.reduceBEq, Int.reduceBNe, h6, h9, h11, h12, h14, h15, h16, s6, s55, s15]
    refine branch_mk (fun hcu => ?_) (fun hcu => ?_)
    · have htk : l.take (u + 1) = l.take u ++ [gd l u] := by rw [List.take_add_one, gd_some l u (by omega)]; rfl
      simp -implicitDefEqProofs (disch := omega) only [go_sem, ↓reduceIte, reduceEqDiff, reduceMul, reduceAdd, reduceDiv, Nat.reduceBEq, reduceLeDiff, reduceToNat, reduceNe, reduceEq, reduceLT, reduceLE, Int.reduceBEq, Int.reduceBNe, h6, h9, h11, h12, h14, h15, h16, s6, s55, s15]
      refine branch_mk (fun hd => ?_) (fun hd => ?_)
      · have hof : ofF (l.take (u + 1)) v = ofF (l.take u) v ++ [gd l u] := by rw [htk]; simp [ofF, hd]
        simp -implicitDefEqProofs (disch := omega) only [go_sem, ↓reduceIte, reduceEqDiff, reduceMul, reduceAdd, reduceDiv, Nat.reduceBEq, reduceLeDiff, reduceToNat, reduceNe, reduceEq, reduceLT, reduceLE, Int.reduceBEq, Int.reduceBNe, h6, h9, h11, h12, h14, h15, h16, s6, s55, s15, List.take_length]
        refine againQ_mk (m - 1) (by omega) ⟨u + 1, by omega, ?_⟩
        rw [hof]
        simp -implicitDefEqProofs (disch := omega) only [go_sem, ↓reduceIte, reduceEqDiff, reduceMul, reduceAdd, reduceDiv, Nat.reduceBEq, reduceLeDiff, reduceToNat, reduceNe, reduceEq, reduceLT, reduceLE, Int.reduceBEq, Int.reduceBNe, h6, h9, h11, h12, h14, h15, h16, s6, s55, s15, List.take_length]
        simp
      · have hof : ofF (l.take (u + 1)) v = ofF (l.take u) v := by rw [htk]; simp [ofF, hd]
        simp -implicitDefEqProofs (disch := omega) only [go_sem, ↓reduceIte, reduceEqDiff, reduceMul, reduceAdd, reduceDiv, Nat.reduceBEq, reduceLeDiff, reduceToNat, reduceNe, reduceEq, reduceLT, reduceLE, Int.reduceBEq, Int.reduceBNe, h6, h9, h11, h12, h14, h15, h16, s6, s55, s15]
        refine againQ_mk (m - 1) (by omega) ⟨u + 1, by omega, ?_⟩
        rw [hof]
        simp -implicitDefEqProofs (disch := omega) only [go_sem, ↓reduceIte, reduceEqDiff, reduceMul, reduceAdd, reduceDiv, Nat.reduceBEq, reduceLeDiff, reduceToNat, reduceNe, reduceEq, reduceLT, reduceLE, Int.reduceBEq, Int.reduceBNe, h6, h9, h11, h12, h14, h15, h16, s6, s55, s15]
        simp
    · obtain rfl : u = l.length := by omega
      rw [List.take_length] at h15 s15 hol
      have hon := hown v
      have hol8 := sumsF_len (ofF l v)
      have hob := sumsF_le (filter_good hg (fun c : Ch => decide (c.h = (v : Int)))) (by have := ofF_len l v; exact Nat.le_trans this (by omega))
      have hwst : addU w (sumsF (ofF l v)) 8 = wantF l (v + 1) := hwst
      have hob : ∀ j, j < 8 → -60000000000 ≤ gd (sumsF (ofF l v)) j ∧ gd (sumsF (ofF l v)) j ≤ 60000000000 := hob
      generalize sumsF (ofF l v) = t at *
      simp -implicitDefEqProofs (disch := omega) only [go_sem, ↓reduceIte, reduceEqDiff, reduceMul, reduceAdd, reduceDiv, Nat.reduceBEq, reduceLeDiff, reduceToNat, reduceNe, reduceEq, reduceLT, reduceLE, Int.reduceBEq, Int.reduceBNe, h6, h9, h11, h12, h14, h15, h16, s6, s55, s15, List.take_length]
      refine callC_sem rfl ?_
      refine freeze_op [10486000] ?_
      simp -implicitDefEqProofs (disch := omega) only [go_sem, ↓reduceIte, reduceEqDiff, reduceMul, reduceAdd, reduceDiv, Nat.reduceBEq, reduceLeDiff, reduceToNat, reduceNe, reduceEq, reduceLT, reduceLE, Int.reduceBEq, Int.reduceBNe, h6, h9, h11, h12, h14, h15, h16, s6, s55, s15, List.take_length]
      refine callC_at hon ?_
      simp -implicitDefEqProofs (disch := omega) only [go_sem, ↓reduceIte, reduceEqDiff, reduceMul, reduceAdd, reduceDiv, Nat.reduceBEq, reduceLeDiff, reduceToNat, reduceNe, reduceEq, reduceLT, reduceLE, Int.reduceBEq, Int.reduceBNe, h6, h9, h11, h12, h14, h15, h16, s6, s55, s15, List.take_length]
      refine branch_r (by omega) ?_
      simp -implicitDefEqProofs (disch := omega) only [go_sem, ↓reduceIte, reduceEqDiff, reduceMul, reduceAdd, reduceDiv, Nat.reduceBEq, reduceLeDiff, reduceToNat, reduceNe, reduceEq, reduceLT, reduceLE, Int.reduceBEq, Int.reduceBNe, h6, h9, h11, h12, h14, h15, h16, s6, s55, s15, List.take_length]
      refine loopC_mk (fun n E σ => ∃ u : Nat, u + n = 8 ∧ E 6 = .ptr 10485856 2 0 0 ∧ E 9 = SL s ∧ E 11 = I 0 ∧ E 12 = .own 10486640 1 0 8 ∧ E 14 = I v ∧ E 17 = SL t ∧ E 19 = I u ∧ σ 10485856 = some ⟨26, 2, [LP K l]⟩ ∧ σ 10486640 = some ⟨3, 1, (addU w t u).map I⟩) 8 ⟨0, by omega, ?_⟩ ?_
      · rw [addU_zero hwl]
        simp -implicitDefEqProofs (disch := omega) only [go_sem, ↓reduceIte, reduceEqDiff, reduceMul, reduceAdd, reduceDiv, Nat.reduceBEq, reduceLeDiff, reduceToNat, reduceNe, reduceEq, reduceLT, reduceLE, Int.reduceBEq, Int.reduceBNe, h6, h9, h11, h12, h14, h15, h16, s6, s55, s15, List.take_length]
        simp
      clear h6 h9 h11 h12 h14 h15 h16 s6 s55 s15 hcu E σ hu m
      rintro m E σ ⟨u, hu, h6, h9, h11, h12, h14, h17, h19, s6, s55⟩
      simp -implicitDefEqProofs (disch := omega) only [go_sem, ↓reduceIte, reduceEqDiff, reduceMul, reduceAdd, reduceDiv, Nat.reduceBEq, reduceLeDiff, reduceToNat, reduceNe, reduceEq, reduceLT, reduceLE, Int.reduceBEq, Int.reduceBNe, h6, h9, h11, h12, h14, h17, h19, s6, s55]
      refine branch_mk (fun hcu => ?_) (fun hcu => ?_)
      · have hset := addU_set w t u (by omega)
        have hul := addU_length w t u
        have hug := addU_gd w t u (j := u) (by omega)
        rw [if_neg (by omega)] at hug
        have b1 := hwb u (by omega)
        have b2 := hob u (by omega)
        rw [hug] at hset
        simp -implicitDefEqProofs (disch := omega) only [go_sem, ↓reduceIte, reduceEqDiff, reduceMul, reduceAdd, reduceDiv, Nat.reduceBEq, reduceLeDiff, reduceToNat, reduceNe, reduceEq, reduceLT, reduceLE, Int.reduceBEq, Int.reduceBNe, h6, h9, h11, h12, h14, h17, h19, s6, s55, hul, hug, hset]
        refine againQ_mk (m - 1) (by omega) ⟨u + 1, by omega, ?_⟩
        simp -implicitDefEqProofs (disch := omega) only [go_sem, ↓reduceIte, reduceEqDiff, reduceMul, reduceAdd, reduceDiv, Nat.reduceBEq, reduceLeDiff, reduceToNat, reduceNe, reduceEq, reduceLT, reduceLE, Int.reduceBEq, Int.reduceBNe, h6, h9, h11, h12, h14, h17, h19, s6, s55, hul, hug, hset]
        simp
      · obtain rfl : u = 8 := by omega
        rw [hwst] at s55
        simp -implicitDefEqProofs (disch := omega) only [go_sem, ↓reduceIte, reduceEqDiff, reduceMul, reduceAdd, reduceDiv, Nat.reduceBEq, reduceLeDiff, reduceToNat, reduceNe, reduceEq, reduceLT, reduceLE, Int.reduceBEq, Int.reduceBNe, h6, h9, h11, h12, h14, h17, h19, s6, s55]
        refine againQ_mk (n - 1) (by omega) ⟨v + 1, by omega, ?_⟩
        simp -implicitDefEqProofs (disch := omega) only [go_sem, ↓reduceIte, reduceEqDiff, reduceMul, reduceAdd, reduceDiv, Nat.reduceBEq, reduceLeDiff, reduceToNat, reduceNe, reduceEq, reduceLT, reduceLE, Int.reduceBEq, Int.reduceBNe, h6, h9, h11, h12, h14, h17, h19, s6, s55]
        simp
  · obtain rfl : v = 64 := by omega
    rw [hw64] at s55
    have hst : s.take 8 = s := List.take_of_length_le (by omega)
    simp -implicitDefEqProofs (disch := omega) only [go_sem, ↓reduceIte, reduceEqDiff, reduceMul, reduceAdd, reduceDiv, Nat.reduceBEq, reduceLeDiff, reduceToNat, reduceNe, reduceEq, reduceLT, reduceLE, Int.reduceBEq, Int.reduceBNe, h6, h9, h11, h12, h14, s6, s55, hsl]
    refine callC_at (intsR_ev s s (by omega) (by omega)) ?_
    rw [decide_eq_true rfl]
    simp -implicitDefEqProofs (disch := omega) only [go_sem, ↓reduceIte, reduceEqDiff, reduceMul, reduceAdd, reduceDiv, Nat.reduceBEq, reduceLeDiff, reduceToNat, reduceNe, reduceEq, reduceLT, reduceLE, Int.reduceBEq, Int.reduceBNe, Tryd.results4]
end Go.Proofs.YtgbcfpcjljhijaaDoor
set_option maxRecDepth 100000
namespace Go.Proofs.YtgbcfpcjljhijaaDoor
open Go.Vai Go Go.Proofs
open Nat (reduceEqDiff reduceMul reduceAdd reduceDiv reduceLeDiff)
open Int (reduceToNat reduceNe reduceEq reduceLT reduceLE)
theorem auditTotals_lifted (os : Os) (started : os.Started) (H : Type) (enc : TypeId × Value → H) :
    ReturnsInHanded {} Tryd.checked os 4 .any (fun w args => (Rows.auditTotalsSpec.pre enc Tryd.prog Tryd.f4 [] false w args ∧ laidMetH Tryd.prog laid3 w) ∧ sizedMet enc Tryd.prog Tryd.f4 (OpenSpec.ofChange Rows.auditTotalsSpec) false w args)
      (Rows.auditTotalsSpec.post enc Tryd.prog Tryd.f4 false true false false) :=
  liftedG (C := Tryd.checked) (tb := 4) (ps := [OI, OFL]) (X := fun w _ => laidMetH Tryd.prog laid3 w) (fun _ _ _ hh h => h.of_heap hh) own3 started (by kernel_rfl) Tryd.func4
    (ChangeSpec.witness_shaped (enc := enc) (C := Tryd.checked) (os := os) (X := fun w _ => laidMetH Tryd.prog laid3 w) false (World.doorLaid Tryd.prog 14 os) #[.int .i64 0, .slice none 0 0] 8 rfl (World.shaped_of_RefB (by kernel_rfl) (by kernel_rfl)) (by kernel_rfl) (by kernel_rfl) (by kernel_rfl) (door_met os _))
    laidOut3 (by kernel_rfl) (by kernel_rfl) (by kernel_rfl) rfl (len_2 fun _ _ => rfl)
    (fun w => ⟨o_int (by kernel_rfl), o_fives, trivial⟩)
    (allP_2 fun a0 a1 h0 h1 => by
      obtain ⟨x0, hx0, rfl⟩ := h0
      obtain ⟨x1, hx1, hr1, rfl⟩ := h1
      exact totals_ev x0 x1 hx0 hx1 hr1)
    (fun _ _ h => gok h)
theorem auditTotals_row : Rows.AuditTotalsSaid :=
  OpenClaim.holds_of_wide 4 Tryd.f4 rfl rfl rfl rfl rfl rfl rfl ⟨rfl, rfl, rfl, rfl, rfl⟩ rfl rfl rfl rfl rfl (by kernel_rfl) Tryd.func4 (by kernel_rfl)
    (of_decide_eq_true (by kernel_rfl)) (by unfold Func.isWrapper; first | (rw [if_pos (by decide +kernel)]; kernel_rfl) | (rw [if_neg (by decide +kernel)]; exact ⟨rfl, rfl⟩))
    (fun os started H enc _ => auditTotals_lifted os started H enc)
theorem auditTotals_holds : Rows.AuditTotalsCardSaid :=
  Claim7.holds_tied_plain_at .later [] [.data] true (true, "15e72945ea0d842684219eb61c4c3078e08fef8eedac21bc7f2d20fbaca9026f") false
    auditTotals_row (fun _ h => by cases h) (by kernel_rfl) (fun _ h => by cases h) auditTotals_row_tie rfl ⟨rfl, rfl⟩ (by kernel_rfl) rfl
    (fun f fn hf hfn => by
      obtain rfl : f = 4 := Option.some.inj ((show Tryd.prog.funcNamed "dialtone/dialtonelaw40.AuditTotals" = some 4 by kernel_rfl).symm.trans hf) |>.symm
      obtain rfl : fn = Tryd.f4 := (Option.some.inj (Tryd.func4.symm.trans hfn)).symm
      exact ⟨by kernel_rfl, fun j t ht => by
          rw [Tryd.params4] at ht
          rcases j with _ | j
          · obtain rfl : t = 3 := by simpa using ht.symm
            exact (show Tryd.prog.wantsStandIn 3 = false by kernel_rfl)
          rcases j with _ | j
          · obtain rfl : t = 22 := by simpa using ht.symm
            exact (show Tryd.prog.wantsStandIn 22 = false by kernel_rfl)
          simp at ht⟩)
    (by kernel_rfl)
#print axioms auditTotals_holds
end Go.Proofs.YtgbcfpcjljhijaaDoor

/- Chapter 24, RouteTables: for every input the law returns true, and each argument reads afterwards as it read before. -/
import Derived.Test.YtlhhcjlcaacfpaaKH
import Derived.Test.YtlhhcjlcaacfpaaRows
set_option linter.unusedVariables false
set_option linter.unusedSimpArgs false
set_option maxRecDepth 100000
namespace Go.Proofs.Ytlhhcjlcaacfpaa.Rt
open Go.Vai Go Go.Proofs Go.Proofs.Ytlhhcjlcaacfpaa
def hsN (l : List Up) (n : Int) : Nat → List Int
  | 0 => []
  | i + 1 => hsN l n i ++ [heldV l n i]
theorem hsN_length (l : List Up) (n : Int) : ∀ i, (hsN l n i).length = i
  | 0 => rfl
  | i + 1 => by rw [hsN, List.length_append, hsN_length l n i]; rfl
theorem hsN_at (l : List Up) (n : Int) {v : Nat} : ∀ {i : Nat}, v < i → gd (hsN l n i) v = heldV l n v
  | 0, h => absurd h (Nat.not_lt_zero _)
  | i + 1, h => by
    rw [hsN]
    by_cases hv : v < i
    · rw [gd_append_left _ _ _ (by rw [hsN_length]; exact hv), hsN_at l n hv]
    · obtain rfl : v = i := by omega
      rw [gd_append_right _ _ _ (by rw [hsN_length]; omega), hsN_length, Nat.sub_self]; rfl
theorem hsN_holders {l : List Up} (h : validT l = true) (n : Int) {b : Nat} (hb : b ≤ l.length) (hb2 : b < 30) : holdersF (hsN l n (b + 1)) = true := by
  unfold holdersF
  rw [hsN_length, Bool.and_eq_true, inF_iff, List.all_eq_true]
  refine ⟨by omega, fun c hc => ?_⟩
  obtain ⟨i, hi, rfl⟩ := List.mem_iff_getElem.1 hc
  rw [← gd_getB _ i hi]
  rw [hsN_length] at hi
  rw [hsN_at l n hi, inF_iff]
  rcases heldV_in h n (v := i) (by omega) with e | ⟨e1, e2⟩ <;> omega
set_option maxHeartbeats 2000000 in
theorem tables_ev (x : List Q4) (which nn t late : Int) (y : List Int) (c : Int) (hn : x.length ≤ 9223372036854775807) (hx : ∀ q ∈ x, q.ok) (hw : R64 which) (hnn : R64 nn) (ht0 : R64 t) (hlt : R64 late) (hy : y.length ≤ 9223372036854775807) (hyr : ∀ a ∈ y, R64 a) (hc : R64 c) : Ev Try.prog 3 [QL x, I which, I nn, I t, I late, SL y, I c] (B true) := by
  have c0 := Ytlhhcjlcaacfpaa.made_ev x hx hn
  have ht := madeF_valid x
  have h14 := madeF_len x
  generalize madeF x = l at *
  have h40 := len40 ht
  have cn := near_ev l which nn (by omega) (validT_nb ht) hw hnn
  have hin := nearF_in l which nn
  generalize nearF l which nn = n at *
  have cp1 := Ytlhhcjlcaacfpaa.pick_ev t 60 ht0 (by omega)
  have hp1 := Ytlhhcjlcaacfpaa.pickF_in (c := t) (n := 60) (by omega)
  generalize Ytlhhcjlcaacfpaa.pickF t 60 = T at *
  have cp2 := Ytlhhcjlcaacfpaa.pick_ev late 20 hlt (by omega)
  have hp2 := Ytlhhcjlcaacfpaa.pickF_in (c := late) (n := 20) (by omega)
  generalize Ytlhhcjlcaacfpaa.pickF late 20 = G at *
  have ck1 := known_at ht (t := T) (lag := G) (by omega) (by omega)
  have m1 : atF l (T - G) ≤ atF l T := atF_mono l (by omega)
  have m3 := atF_le l T
  generalize atF l (T - G) = a at *
  generalize atF l T = b at *
  have cp3 := Ytlhhcjlcaacfpaa.pick_ev c 8 hc (by omega)
  have hd := Ytlhhcjlcaacfpaa.pickF_in (c := c) (n := 8) (by omega)
  generalize Ytlhhcjlcaacfpaa.pickF c 8 = d at *
  refine ev_of Try.func3 rfl (by kernel_rfl) mo (Nat.le_of_ble_eq_true rfl) ?_
  simp -implicitDefEqProofs (disch := omega) only [go_sem, ↓reduceIte, Nat.reduceEqDiff, Nat.reduceMul, Nat.reduceAdd, Nat.reduceDiv, Nat.reduceBEq, Nat.reduceLeDiff, Int.reduceToNat, Int.reduceNe, Int.reduceEq, Int.reduceLT, Int.reduceLE, Int.reduceBEq, Int.reduceBNe, ne_eq, not_true_eq_false, not_false_eq_true, decide_true, decide_false, List.length_map, Try.ntmps3]
  refine callC_at sane_ev ?_
  simp -implicitDefEqProofs (disch := omega) only [go_sem, ↓reduceIte, Nat.reduceEqDiff, Nat.reduceMul, Nat.reduceAdd, Nat.reduceDiv, Nat.reduceBEq, Nat.reduceLeDiff, Int.reduceToNat, Int.reduceNe, Int.reduceEq, Int.reduceLT, Int.reduceLE, Int.reduceBEq, Int.reduceBNe, ne_eq, not_true_eq_false, not_false_eq_true, decide_true, decide_false, List.length_map]
  refine callC_at c0 ?_
  simp -implicitDefEqProofs (disch := omega) only [go_sem, ↓reduceIte, Nat.reduceEqDiff, Nat.reduceMul, Nat.reduceAdd, Nat.reduceDiv, Nat.reduceBEq, Nat.reduceLeDiff, Int.reduceToNat, Int.reduceNe, Int.reduceEq, Int.reduceLT, Int.reduceLE, Int.reduceBEq, Int.reduceBNe, ne_eq, not_true_eq_false, not_false_eq_true, decide_true, decide_false, List.length_map]
  refine callC_at cn ?_
  simp -implicitDefEqProofs (disch := omega) only [go_sem, ↓reduceIte, Nat.reduceEqDiff, Nat.reduceMul, Nat.reduceAdd, Nat.reduceDiv, Nat.reduceBEq, Nat.reduceLeDiff, Int.reduceToNat, Int.reduceNe, Int.reduceEq, Int.reduceLT, Int.reduceLE, Int.reduceBEq, Int.reduceBNe, ne_eq, not_true_eq_false, not_false_eq_true, decide_true, decide_false, List.length_map]
  refine callC_at cp1 ?_
  simp -implicitDefEqProofs (disch := omega) only [go_sem, ↓reduceIte, Nat.reduceEqDiff, Nat.reduceMul, Nat.reduceAdd, Nat.reduceDiv, Nat.reduceBEq, Nat.reduceLeDiff, Int.reduceToNat, Int.reduceNe, Int.reduceEq, Int.reduceLT, Int.reduceLE, Int.reduceBEq, Int.reduceBNe, ne_eq, not_true_eq_false, not_false_eq_true, decide_true, decide_false, List.length_map]
  refine callC_at cp2 ?_
  simp -implicitDefEqProofs (disch := omega) only [go_sem, ↓reduceIte, Nat.reduceEqDiff, Nat.reduceMul, Nat.reduceAdd, Nat.reduceDiv, Nat.reduceBEq, Nat.reduceLeDiff, Int.reduceToNat, Int.reduceNe, Int.reduceEq, Int.reduceLT, Int.reduceLE, Int.reduceBEq, Int.reduceBNe, ne_eq, not_true_eq_false, not_false_eq_true, decide_true, decide_false, List.length_map]
  refine callC_at ck1 ?_
  simp -implicitDefEqProofs (disch := omega) only [go_sem, ↓reduceIte, Nat.reduceEqDiff, Nat.reduceMul, Nat.reduceAdd, Nat.reduceDiv, Nat.reduceBEq, Nat.reduceLeDiff, Int.reduceToNat, Int.reduceNe, Int.reduceEq, Int.reduceLT, Int.reduceLE, Int.reduceBEq, Int.reduceBNe, ne_eq, not_true_eq_false, not_false_eq_true, decide_true, decide_false, List.length_map]
  refine branch_r (by omega) ?_
  simp -implicitDefEqProofs (disch := omega) only [go_sem, ↓reduceIte, Nat.reduceEqDiff, Nat.reduceMul, Nat.reduceAdd, Nat.reduceDiv, Nat.reduceBEq, Nat.reduceLeDiff, Int.reduceToNat, Int.reduceNe, Int.reduceEq, Int.reduceLT, Int.reduceLE, Int.reduceBEq, Int.reduceBNe, ne_eq, not_true_eq_false, not_false_eq_true, decide_true, decide_false, List.length_map]
  refine branch_r (by omega) ?_
  simp -implicitDefEqProofs (disch := omega) only [go_sem, ↓reduceIte, Nat.reduceEqDiff, Nat.reduceMul, Nat.reduceAdd, Nat.reduceDiv, Nat.reduceBEq, Nat.reduceLeDiff, Int.reduceToNat, Int.reduceNe, Int.reduceEq, Int.reduceLT, Int.reduceLE, Int.reduceBEq, Int.reduceBNe, ne_eq, not_true_eq_false, not_false_eq_true, decide_true, decide_false, List.length_map]
  refine branch_r (by omega) ?_
  simp -implicitDefEqProofs (disch := omega) only [go_sem, ↓reduceIte, Nat.reduceEqDiff, Nat.reduceMul, Nat.reduceAdd, Nat.reduceDiv, Nat.reduceBEq, Nat.reduceLeDiff, Int.reduceToNat, Int.reduceNe, Int.reduceEq, Int.reduceLT, Int.reduceLE, Int.reduceBEq, Int.reduceBNe, ne_eq, not_true_eq_false, not_false_eq_true, decide_true, decide_false, List.length_map]
  refine branch_mk (fun h10 => ?_) (fun h10 => ?_)
  · simp -implicitDefEqProofs (disch := omega) only [go_sem, ↓reduceIte, Nat.reduceEqDiff, Nat.reduceMul, Nat.reduceAdd, Nat.reduceDiv, Nat.reduceBEq, Nat.reduceLeDiff, Int.reduceToNat, Int.reduceNe, Int.reduceEq, Int.reduceLT, Int.reduceLE, Int.reduceBEq, Int.reduceBNe, ne_eq, not_true_eq_false, not_false_eq_true, decide_true, decide_false, List.length_map, Try.results3]
  simp -implicitDefEqProofs (disch := omega) only [go_sem, ↓reduceIte, Nat.reduceEqDiff, Nat.reduceMul, Nat.reduceAdd, Nat.reduceDiv, Nat.reduceBEq, Nat.reduceLeDiff, Int.reduceToNat, Int.reduceNe, Int.reduceEq, Int.reduceLT, Int.reduceLE, Int.reduceBEq, Int.reduceBNe, ne_eq, not_true_eq_false, not_false_eq_true, decide_true, decide_false, List.length_map]
  have hdr : (b : Int) - a = ((b - a : Nat) : Int) := by omega
  have hh := hsN_holders ht n (b := b) (by omega) (by omega)
  have hhl := hsN_length l n (b + 1)
  have hat := fun v (hv : v < b + 1) => hsN_at l n hv
  have hval := known_valid hh ((b : Int) - a) (by omega) y
  have ckn := known_ev (hsN l n (b + 1)) ((b : Int) - a) y (by omega) (by omega) (by omega) (by omega) hy hyr
  have hK8 := knownF_length (hsN l n (b + 1)) ((b : Int) - a) y
  have hcp := path_ev (hsN l n (b + 1)) (knownF (hsN l n (b + 1)) ((b : Int) - a) y) ((b : Int) - a) d (by omega) (by rw [knownF_length]; omega) ⟨by omega, by omega⟩
  have hbl := (betF_mem ht (n := n) (a := a) (b := b) m3)
  have cb := between_at ht (a := a) (b := b) m1 m3 hin
  refine loopC_mk (fun k E σ => ∃ i : Nat, i + k = b + 1 ∧ E 5 = SL y ∧ E 6 = I c ∧ E 15 = B true ∧ E 16 = UPS l ∧ E 17 = I n ∧ E 18 = I T ∧ E 19 = I a ∧ E 20 = I b ∧ E 22 = .own 8388960 1 0 i ∧ σ 8388960 = some ⟨3, 1, (hsN l n i).map I⟩ ∧ E 23 = I i) (b + 1) ⟨0, by omega, ?_⟩ ?_
  · simp -implicitDefEqProofs (disch := omega) only [go_sem, ↓reduceIte, Nat.reduceEqDiff, Nat.reduceMul, Nat.reduceAdd, Nat.reduceDiv, Nat.reduceBEq, Nat.reduceLeDiff, Int.reduceToNat, Int.reduceNe, Int.reduceEq, Int.reduceLT, Int.reduceLE, Int.reduceBEq, Int.reduceBNe, ne_eq, not_true_eq_false, not_false_eq_true, decide_true, decide_false, List.length_map]
    simp [hsN]
  rintro k E σ ⟨i, hk, e5, e6, e15, e16, e17, e18, e19, e20, e22, s22, e23⟩
  simp -implicitDefEqProofs (disch := omega) only [go_sem, ↓reduceIte, Nat.reduceEqDiff, Nat.reduceMul, Nat.reduceAdd, Nat.reduceDiv, Nat.reduceBEq, Nat.reduceLeDiff, Int.reduceToNat, Int.reduceNe, Int.reduceEq, Int.reduceLT, Int.reduceLE, Int.reduceBEq, Int.reduceBNe, ne_eq, not_true_eq_false, not_false_eq_true, decide_true, decide_false, List.length_map, e5, e6, e15, e16, e17, e18, e19, e20, e22, s22, e23]
  refine branch_mk (fun hc => ?_) (fun hc => ?_)
  · have ch := held_at ht (v := i) (by omega) hin
    have hli := hsN_length l n i
    have hs1 : hsN l n i ++ [heldV l n i] = hsN l n (i + 1) := rfl
    obtain ⟨g2, hg2⟩ : ∃ g, hsN l n (i + 1) = g := ⟨_, rfl⟩
    rw [hg2] at hs1
    generalize heldV l n i = w at *
    generalize hsN l n i = g1 at *
    simp -implicitDefEqProofs (disch := omega) only [go_sem, ↓reduceIte, Nat.reduceEqDiff, Nat.reduceMul, Nat.reduceAdd, Nat.reduceDiv, Nat.reduceBEq, Nat.reduceLeDiff, Int.reduceToNat, Int.reduceNe, Int.reduceEq, Int.reduceLT, Int.reduceLE, Int.reduceBEq, Int.reduceBNe, ne_eq, not_true_eq_false, not_false_eq_true, decide_true, decide_false, List.length_map, e5, e6, e15, e16, e17, e18, e19, e20, e22, s22, e23, hli]
    refine callC_at ch ?_
    simp -implicitDefEqProofs (disch := omega) only [go_sem, ↓reduceIte, Nat.reduceEqDiff, Nat.reduceMul, Nat.reduceAdd, Nat.reduceDiv, Nat.reduceBEq, Nat.reduceLeDiff, Int.reduceToNat, Int.reduceNe, Int.reduceEq, Int.reduceLT, Int.reduceLE, Int.reduceBEq, Int.reduceBNe, ne_eq, not_true_eq_false, not_false_eq_true, decide_true, decide_false, List.length_map, e5, e6, e15, e16, e17, e18, e19, e20, e22, s22, e23, hli]
    refine againQ_mk (b + 1 - (i + 1)) (by omega) ⟨i + 1, by omega, ?_⟩
    simp -implicitDefEqProofs (disch := omega) only [go_sem, ↓reduceIte, Nat.reduceEqDiff, Nat.reduceMul, Nat.reduceAdd, Nat.reduceDiv, Nat.reduceBEq, Nat.reduceLeDiff, Int.reduceToNat, Int.reduceNe, Int.reduceEq, Int.reduceLT, Int.reduceLE, Int.reduceBEq, Int.reduceBNe, ne_eq, not_true_eq_false, not_false_eq_true, decide_true, decide_false, List.length_map, e5, e6, e15, e16, e17, e18, e19, e20, e22, s22, e23, hli, hs1]
    rw [hg2]
    exact ⟨rfl, rfl⟩
  · obtain rfl : i = b + 1 := by omega
    clear hk
    simp -implicitDefEqProofs (disch := omega) only [go_sem, ↓reduceIte, Nat.reduceEqDiff, Nat.reduceMul, Nat.reduceAdd, Nat.reduceDiv, Nat.reduceBEq, Nat.reduceLeDiff, Int.reduceToNat, Int.reduceNe, Int.reduceEq, Int.reduceLT, Int.reduceLE, Int.reduceBEq, Int.reduceBNe, ne_eq, not_true_eq_false, not_false_eq_true, decide_true, decide_false, List.length_map, e5, e6, e15, e16, e17, e18, e19, e20, e22, s22, e23, hhl]
    refine callC_at ckn ?_ (h1 := .inr (by simp only [go_sem, AV.flat, AV.flatL, Bool.and_self]))
    generalize knownF (hsN l n (b + 1)) (↑b - ↑a) y = K at *
    generalize hsN l n (b + 1) = h at *
    have hle : (b + 1 ≤ h.length) = True := eq_true (by omega)
    simp -implicitDefEqProofs (disch := omega) only [go_sem, ↓reduceIte, Nat.reduceEqDiff, Nat.reduceMul, Nat.reduceAdd, Nat.reduceDiv, Nat.reduceBEq, Nat.reduceLeDiff, Int.reduceToNat, Int.reduceNe, Int.reduceEq, Int.reduceLT, Int.reduceLE, Int.reduceBEq, Int.reduceBNe, ne_eq, not_true_eq_false, not_false_eq_true, decide_true, decide_false, List.length_map, e5, e6, e15, e16, e17, e18, e19, e20, e22, s22, e23, hhl]
    refine callC_at cp3 ?_
    simp -implicitDefEqProofs (disch := omega) only [go_sem, ↓reduceIte, Nat.reduceEqDiff, Nat.reduceMul, Nat.reduceAdd, Nat.reduceDiv, Nat.reduceBEq, Nat.reduceLeDiff, Int.reduceToNat, Int.reduceNe, Int.reduceEq, Int.reduceLT, Int.reduceLE, Int.reduceBEq, Int.reduceBNe, ne_eq, not_true_eq_false, not_false_eq_true, decide_true, decide_false, List.length_map, hK8, e5, e6, e15, e16, e17, e18, e19, e20, e22, s22, e23, hhl, hle, hK8]
    by_cases hcan : canF h K ((b : Int) - a) d = true
    · rw [pathR, if_pos hcan] at hcp
      have hP := path24 hcan
      generalize (pathF h K d).2 = e at hcp hP
      generalize (pathF h K d).1 = p at hcp hP
      have hpos := hP.ok.pos
      have hfin := hP.ok.fin
      have hl := hP.here _ (gd_mem p (p.length - 1) (by omega))
      have hk0 := hP.ok.last 0 (by omega)
      have hk1 := hP.ok.knows 0 (by omega)
      have hls := hP.least
      have hshort := hP.short
      have hz : (gd p 0).1 = d := by rw [hP.ok.zero]
      rw [hz] at hk1
      have e0 : ((p.length : Int) - 1).toNat = p.length - 1 := by omega
      refine callC_at hcp ?_ (h1 := .inr (by simp only [go_sem, AV.flat, AV.flatL, Bool.and_self]))
      simp -implicitDefEqProofs (disch := omega) only [go_sem, ↓reduceIte, Nat.reduceEqDiff, Nat.reduceMul, Nat.reduceAdd, Nat.reduceDiv, Nat.reduceBEq, Nat.reduceLeDiff, Int.reduceToNat, Int.reduceNe, Int.reduceEq, Int.reduceLT, Int.reduceLE, Int.reduceBEq, Int.reduceBNe, ne_eq, not_true_eq_false, not_false_eq_true, decide_true, decide_false, List.length_map, e5, e6, e15, e16, e17, e18, e19, e20, e22, s22, e23, hhl, hK8, e0]
      refine branch_r (by omega) ?_
      simp -implicitDefEqProofs (disch := omega) only [go_sem, ↓reduceIte, Nat.reduceEqDiff, Nat.reduceMul, Nat.reduceAdd, Nat.reduceDiv, Nat.reduceBEq, Nat.reduceLeDiff, Int.reduceToNat, Int.reduceNe, Int.reduceEq, Int.reduceLT, Int.reduceLE, Int.reduceBEq, Int.reduceBNe, ne_eq, not_true_eq_false, not_false_eq_true, decide_true, decide_false, List.length_map, e5, e6, e15, e16, e17, e18, e19, e20, e22, s22, e23, hhl, hK8, e0]
      have hpp : 0 ≤ (gd p (p.length - 1)).2 := hl.2.2.2.1
      have hmem := hbl (gd h (gd p (p.length - 1)).2.toNat)
      have hbv : ∃ v, a ≤ v ∧ v ≤ b ∧ heldV l n v = gd h (gd p (p.length - 1)).2.toNat := ⟨(gd p (p.length - 1)).2.toNat, by omega, by omega, (hat _ (by omega)).symm⟩
      have hmem := hmem.2 hbv
      clear hbv
      have q1 : a ≤ (gd p (p.length - 1)).2 := by omega
      have q2 : (gd p (p.length - 1)).2 ≤ b := by omega
      generalize gd p (p.length - 1) = q at *
      obtain ⟨z1, z2⟩ := q
      simp only at *
      have hzl : z2.toNat < b + 1 := by omega
      have hw9 : (betF l n a b).length ≤ 9 := by
        unfold betF; exact Nat.le_trans (List.length_filter_le _ _) (by simp [crs])
      generalize betF l n a b = who at *
      refine branch_r (by omega) ?_
      simp -implicitDefEqProofs (disch := omega) only [go_sem, ↓reduceIte, Nat.reduceEqDiff, Nat.reduceMul, Nat.reduceAdd, Nat.reduceDiv, Nat.reduceBEq, Nat.reduceLeDiff, Int.reduceToNat, Int.reduceNe, Int.reduceEq, Int.reduceLT, Int.reduceLE, Int.reduceBEq, Int.reduceBNe, ne_eq, not_true_eq_false, not_false_eq_true, decide_true, decide_false, List.length_map, e5, e6, e15, e16, e17, e18, e19, e20, e22, s22, e23, hhl, hK8]
      refine branch_r (by omega) ?_
      simp -implicitDefEqProofs (disch := omega) only [go_sem, ↓reduceIte, Nat.reduceEqDiff, Nat.reduceMul, Nat.reduceAdd, Nat.reduceDiv, Nat.reduceBEq, Nat.reduceLeDiff, Int.reduceToNat, Int.reduceNe, Int.reduceEq, Int.reduceLT, Int.reduceLE, Int.reduceBEq, Int.reduceBNe, ne_eq, not_true_eq_false, not_false_eq_true, decide_true, decide_false, List.length_map, e5, e6, e15, e16, e17, e18, e19, e20, e22, s22, e23, hhl, hK8]
      refine callC_at cb ?_
      simp -implicitDefEqProofs (disch := omega) only [go_sem, ↓reduceIte, Nat.reduceEqDiff, Nat.reduceMul, Nat.reduceAdd, Nat.reduceDiv, Nat.reduceBEq, Nat.reduceLeDiff, Int.reduceToNat, Int.reduceNe, Int.reduceEq, Int.reduceLT, Int.reduceLE, Int.reduceBEq, Int.reduceBNe, ne_eq, not_true_eq_false, not_false_eq_true, decide_true, decide_false, List.length_map, e5, e6, e15, e16, e17, e18, e19, e20, e22, s22, e23, hhl, hK8]
      refine loopC_mk (fun k E σ => ∃ j : Nat, j + k = who.length ∧ E 22 = .own 8388960 1 0 (b + 1) ∧ E 29 = I e ∧ E 31 = .ptr 8389104 2 0 0 ∧ E 32 = SL who ∧ E 33 = I 0 ∧ E 34 = B (decide (gd h z2.toNat ∈ who.take j)) ∧ E 35 = I j ∧ σ 8388960 = some ⟨3, 1, h.map I⟩ ∧ σ 8389104 = some ⟨39, 2, [HP (z1, z2)]⟩) who.length ⟨0, by omega, ?_⟩ ?_
      · simp -implicitDefEqProofs (disch := omega) only [go_sem, ↓reduceIte, Nat.reduceEqDiff, Nat.reduceMul, Nat.reduceAdd, Nat.reduceDiv, Nat.reduceBEq, Nat.reduceLeDiff, Int.reduceToNat, Int.reduceNe, Int.reduceEq, Int.reduceLT, Int.reduceLE, Int.reduceBEq, Int.reduceBNe, ne_eq, not_true_eq_false, not_false_eq_true, decide_true, decide_false, List.length_map, e5, e6, e15, e16, e17, e18, e19, e20, e22, s22, e23, hhl, hK8]
        rfl
      clear e5 e6 e15 e16 e17 e18 e19 e20 e22 s22 e23 E σ
      rintro k E σ ⟨j, hj, e22, e29, e31, e32, e33, e34, e35, s22, s31⟩
      simp -implicitDefEqProofs (disch := omega) only [go_sem, ↓reduceIte, Nat.reduceEqDiff, Nat.reduceMul, Nat.reduceAdd, Nat.reduceDiv, Nat.reduceBEq, Nat.reduceLeDiff, Int.reduceToNat, Int.reduceNe, Int.reduceEq, Int.reduceLT, Int.reduceLE, Int.reduceBEq, Int.reduceBNe, ne_eq, not_true_eq_false, not_false_eq_true, decide_true, decide_false, List.length_map, e22, e29, e31, e32, e33, e34, e35, s22, s31, hhl, hzl]
      refine branch_mk (fun hc => ?_) (fun hc => ?_)
      · have hs : decide (gd h z2.toNat ∈ who.take (j + 1)) = (decide (gd h z2.toNat ∈ who.take j) || decide (gd who j = gd h z2.toNat)) := by
          rw [take_succ' who j (by omega)]
          simp [eq_comm]
        simp -implicitDefEqProofs (disch := omega) only [go_sem, ↓reduceIte, Nat.reduceEqDiff, Nat.reduceMul, Nat.reduceAdd, Nat.reduceDiv, Nat.reduceBEq, Nat.reduceLeDiff, Int.reduceToNat, Int.reduceNe, Int.reduceEq, Int.reduceLT, Int.reduceLE, Int.reduceBEq, Int.reduceBNe, ne_eq, not_true_eq_false, not_false_eq_true, decide_true, decide_false, List.length_map, e22, e29, e31, e32, e33, e34, e35, s22, s31, hhl, hzl]
        refine branch_mk (fun h1 => ?_) (fun h1 => ?_)
        all_goals
          simp -implicitDefEqProofs (disch := omega) only [go_sem, ↓reduceIte, Nat.reduceEqDiff, Nat.reduceMul, Nat.reduceAdd, Nat.reduceDiv, Nat.reduceBEq, Nat.reduceLeDiff, Int.reduceToNat, Int.reduceNe, Int.reduceEq, Int.reduceLT, Int.reduceLE, Int.reduceBEq, Int.reduceBNe, ne_eq, not_true_eq_false, not_false_eq_true, decide_true, decide_false, List.length_map, e22, e29, e31, e32, e33, e34, e35, s22, s31, hhl, hzl]
          refine againQ_mk (who.length - (j + 1)) (by omega) ⟨j + 1, by omega, ?_⟩
          simp -implicitDefEqProofs (disch := omega) only [go_sem, ↓reduceIte, Nat.reduceEqDiff, Nat.reduceMul, Nat.reduceAdd, Nat.reduceDiv, Nat.reduceBEq, Nat.reduceLeDiff, Int.reduceToNat, Int.reduceNe, Int.reduceEq, Int.reduceLT, Int.reduceLE, Int.reduceBEq, Int.reduceBNe, ne_eq, not_true_eq_false, not_false_eq_true, decide_true, decide_false, List.length_map, e22, e29, e31, e32, e33, e34, e35, s22, s31, hhl, hzl, hs, h1, decide_true, decide_false, Bool.true_or, Bool.false_or]
          first | rfl | exact ⟨rfl, rfl⟩
      · obtain rfl : j = who.length := by omega
        rw [List.take_length] at e34
        have heq : ((e == 2) = (gd h z2.toNat == -1)) := by
          rcases hfin with ⟨r1, r2⟩ | ⟨r1, r2⟩ | ⟨r1, r2, r3⟩
          · rw [r1, r2, show (z1 == -1) = false from beq_eq_false_iff_ne.2 (by omega)]; rfl
          · rw [r1, r2]; rfl
          · rw [r1, show (gd h z2.toNat == -1) = false from beq_eq_false_iff_ne.2 (by omega)]; rfl
        simp -implicitDefEqProofs (disch := omega) only [go_sem, ↓reduceIte, Nat.reduceEqDiff, Nat.reduceMul, Nat.reduceAdd, Nat.reduceDiv, Nat.reduceBEq, Nat.reduceLeDiff, Int.reduceToNat, Int.reduceNe, Int.reduceEq, Int.reduceLT, Int.reduceLE, Int.reduceBEq, Int.reduceBNe, ne_eq, not_true_eq_false, not_false_eq_true, decide_true, decide_false, List.length_map, e22, e29, e31, e32, e33, e34, e35, s22, s31, hhl, hzl, hmem, Try.results3]
        refine branch_l heq ?_
        simp -implicitDefEqProofs (disch := omega) only [go_sem, ↓reduceIte, Nat.reduceEqDiff, Nat.reduceMul, Nat.reduceAdd, Nat.reduceDiv, Nat.reduceBEq, Nat.reduceLeDiff, Int.reduceToNat, Int.reduceNe, Int.reduceEq, Int.reduceLT, Int.reduceLE, Int.reduceBEq, Int.reduceBNe, ne_eq, not_true_eq_false, not_false_eq_true, decide_true, decide_false, List.length_map, e22, e29, e31, e32, e33, e34, e35, s22, s31, hhl, hzl, hmem, Try.results3]
        refine branch_mk (fun h1 => ?_) (fun h1 => ?_)
        · simp -implicitDefEqProofs (disch := omega) only [go_sem, ↓reduceIte, Nat.reduceEqDiff, Nat.reduceMul, Nat.reduceAdd, Nat.reduceDiv, Nat.reduceBEq, Nat.reduceLeDiff, Int.reduceToNat, Int.reduceNe, Int.reduceEq, Int.reduceLT, Int.reduceLE, Int.reduceBEq, Int.reduceBNe, ne_eq, not_true_eq_false, not_false_eq_true, decide_true, decide_false, List.length_map, e22, e29, e31, e32, e33, e34, e35, s22, s31, hhl, hzl, hmem, heq, Try.results3]
          try simp [heq]
        · have hz1 : gd h z2.toNat = z1 := by
            rcases hfin with ⟨r1, r2⟩ | ⟨r1, r2⟩ | ⟨r1, r2, r3⟩ <;> first | exact r2 | omega
          simp -implicitDefEqProofs (disch := omega) only [go_sem, ↓reduceIte, Nat.reduceEqDiff, Nat.reduceMul, Nat.reduceAdd, Nat.reduceDiv, Nat.reduceBEq, Nat.reduceLeDiff, Int.reduceToNat, Int.reduceNe, Int.reduceEq, Int.reduceLT, Int.reduceLE, Int.reduceBEq, Int.reduceBNe, ne_eq, not_true_eq_false, not_false_eq_true, decide_true, decide_false, List.length_map, e22, e29, e31, e32, e33, e34, e35, s22, s31, hhl, hzl, hmem, heq, hz1, Try.results3]
          try simp [heq, hz1]
    · rw [pathR, if_neg hcan] at hcp
      have hkd : gd K d.toNat = -1 := by
        rw [can_iff hval hd, decide_eq_true_eq] at hcan
        have := valid_known' hval d.toNat (by omega)
        omega
      have hlt8 : d.toNat < 8 := by omega
      refine callC_at hcp ?_
      simp -implicitDefEqProofs (disch := omega) only [go_sem, ↓reduceIte, Nat.reduceEqDiff, Nat.reduceMul, Nat.reduceAdd, Nat.reduceDiv, Nat.reduceBEq, Nat.reduceLeDiff, Int.reduceToNat, Int.reduceNe, Int.reduceEq, Int.reduceLT, Int.reduceLE, Int.reduceBEq, Int.reduceBNe, ne_eq, not_true_eq_false, not_false_eq_true, decide_true, decide_false, List.length_map, hkd, hlt8, Try.results3, e5, e6, e15, e16, e17, e18, e19, e20, e22, s22, e23, hhl, hK8, hd]
end Go.Proofs.Ytlhhcjlcaacfpaa.Rt
set_option maxRecDepth 100000
namespace Go.Proofs.Ytlhhcjlcaacfpaa.Rt
open Go.Vai Go Go.Proofs Go.Proofs.Ytlhhcjlcaacfpaa
theorem own : ownKnob Try.checked.prog.godebug = none := by kernel_rfl
theorem laidOut : laidOutB Try.checked.prog = true := by kernel_rfl
section
variable {H : Type} {enc : TypeId × Value → H} {w : World}
def OI (a : AV) : Prop := ∃ n, R64 n ∧ a = I n
theorem wf64 {n : Int} : (Lit.int .i64 n).wf = true ↔ R64 n := by
  have h1 : IntKind.i64.min = -9223372036854775808 := by decide
  have h2 : IntKind.i64.max = 9223372036854775807 := by decide
  simp [Lit.wf, R64, h1, h2]
theorem o_int {t : TypeId} (ht : Try.prog.underlying t = some (.int .i64)) : Opens Try.prog enc w t OI :=
  (opens_int ht).mono (fun a ⟨n, h, e⟩ => ⟨n, wf64.1 h, e⟩) fun a ⟨n, h, e⟩ => ⟨n, wf64.2 h, e⟩
def OQ (a : AV) : Prop := ∃ l : List Q4, l.length ≤ 9223372036854775807 ∧ (∀ x ∈ l, x.ok) ∧ a = QL l
def OQ1 (a : AV) : Prop := ∃ x : Q4, x.ok ∧ a = QP x
theorem o_four : Opens Try.prog enc w 53 OQ1 :=
  (opens_array (T := Int) (q := R64) (f := I) (e := 3) (n := 4) (sz := 1) (by kernel_rfl) (by kernel_rfl) (by kernel_rfl) (o_int (by kernel_rfl))).mono
    (fun a ⟨l, h, h1, e⟩ => by
      match l, h with
      | [x, y, z, u], _ => exact ⟨⟨x, y, z, u⟩, ⟨h1 x (by simp), h1 y (by simp), h1 z (by simp), h1 u (by simp)⟩, e⟩)
    fun a ⟨x, h, e⟩ => ⟨[x.a, x.b, x.c, x.d], rfl, by obtain ⟨h1, h2, h3, h4⟩ := h; simp [h1, h2, h3, h4], e⟩
theorem o_fours : Opens Try.prog enc w 22 OQ :=
  (opens_slice (T := Q4) (q := Q4.ok) (f := QP) (e := 53) (sz := 4) (by kernel_rfl) (by kernel_rfl) (by decide) o_four).mono
    (fun a ⟨l, h, h1, e⟩ => ⟨l, h, h1, e⟩) fun a ⟨l, h, h1, e⟩ => ⟨l, h, h1, e⟩
def OS (a : AV) : Prop := ∃ l : List Int, l.length ≤ 9223372036854775807 ∧ (∀ x ∈ l, R64 x) ∧ a = SL l
theorem o_ints : Opens Try.prog enc w 23 OS :=
  (opens_slice (T := Int) (q := R64) (f := I) (e := 3) (sz := 1) (by kernel_rfl) (by kernel_rfl) (by decide) (o_int (by kernel_rfl))).mono
    (fun a ⟨l, h, h1, e⟩ => ⟨l, h, h1, e⟩) fun a ⟨l, h, h1, e⟩ => ⟨l, h, h1, e⟩
end
theorem routeTables_lifted (os : Os) (started : os.Started) (H : Type) (enc : TypeId × Value → H) :
    ReturnsInHanded {} Try.checked os 3 .any (Rows.routeTablesSpec.pre6 enc Try.prog Try.f3 [] false) (Rows.routeTablesSpec.post enc Try.prog Try.f3 false true false false) :=
  lifted (C := Try.checked) (tb := 4) (ps := [OQ, OI, OI, OI, OI, OS, OI]) own started (by kernel_rfl) Try.func3
    (ChangeSpec.witness6 (enc := enc) (C := Try.checked) false ⟨#[], #[.slice none 0 0, .int .i64 0, .int .i64 0, .int .i64 0, .int .i64 0, .slice none 0 0, .int .i64 0], []⟩ 8 (by kernel_rfl) (by kernel_rfl) (by kernel_rfl) (by kernel_rfl))
    laidOut (by kernel_rfl) (by kernel_rfl) (by kernel_rfl) rfl (len_7 fun _ _ _ _ _ _ _ => rfl)
    (fun w => ⟨o_fours, o_int (by kernel_rfl), o_int (by kernel_rfl), o_int (by kernel_rfl), o_int (by kernel_rfl), o_ints, o_int (by kernel_rfl), trivial⟩)
    (allP_7 fun a0 a1 a2 a3 a4 a5 a6 h0 h1 h2 h3 h4 h5 h6 => by
      obtain ⟨x0, hx0, hr0, rfl⟩ := h0
      obtain ⟨x1, hx1, rfl⟩ := h1
      obtain ⟨x2, hx2, rfl⟩ := h2
      obtain ⟨x3, hx3, rfl⟩ := h3
      obtain ⟨x4, hx4, rfl⟩ := h4
      obtain ⟨x5, hx5, hr5, rfl⟩ := h5
      obtain ⟨x6, hx6, rfl⟩ := h6
      exact tables_ev x0 x1 x2 x3 x4 x5 x6 hx0 hr0 hx1 hx2 hx3 hx4 hx5 hr5 hx6)
end Go.Proofs.Ytlhhcjlcaacfpaa.Rt
namespace Go.Proofs.Ytlhhcjlcaacfpaa
open Go.Vai Go Go.Proofs
theorem routeTables_holds : Rows.RouteTablesSaid :=
  OpenClaim.holds_of_wide 3 Try.f3 rfl rfl rfl rfl rfl rfl rfl ⟨rfl, rfl, rfl, rfl, rfl⟩ rfl rfl rfl rfl rfl (by kernel_rfl) Try.func3 (by kernel_rfl)
    (of_decide_eq_true (by kernel_rfl)) (by unfold Func.isWrapper; first | (rw [if_pos (by decide +kernel)]; kernel_rfl) | (rw [if_neg (by decide +kernel)]; exact ⟨rfl, rfl⟩))
    (fun os started H enc _ => Rt.routeTables_lifted os started H enc)
#print axioms routeTables_holds
end Go.Proofs.Ytlhhcjlcaacfpaa

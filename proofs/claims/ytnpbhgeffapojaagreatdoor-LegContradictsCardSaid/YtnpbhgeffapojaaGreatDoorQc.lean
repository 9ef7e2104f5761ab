/- Chapter 38, LegContradicts: of ends that contradict each other, the one with the first record is believed. Conditions: the package variable digest.round reads as the program's text lays it (tied). -/
import Derived.Test.YtnpbhgeffapojaaGreatDoorKI
set_option linter.all false
set_option maxRecDepth 100000
namespace Go.Proofs.YtnpbhgeffapojaaGreatDoor
open Go.Proofs.Tryz
open Go.Vai Go Go.Proofs
def enS : ByteArray := ⟨#[101, 110, 116, 114, 121]⟩
theorem byte_app (a b : ByteArray) : (a ++ b).data.toList = a.data.toList ++ b.data.toList := by simp
theorem rec_head (l : Lg) (e : Int) (hf : l.f = 3) (ht : l.t = 4) : (recF l e).data.toList = [16, 6, 8] ++ ((viS e).data.toList ++ ((viS (if e = 1 then l.g else l.k).b).data.toList ++ (viS (if e = 1 then l.g else l.k).e).data.toList)) := by
  unfold recF recN; rw [hf, ht]; simp only [byte_app, L0O]
  have h8 : (viS 8).data.toList = [16] := by decide +kernel
  have h3 : (viS 3).data.toList = [6] := by decide +kernel
  have h4 : (viS 4).data.toList = [8] := by decide +kernel
  rw [h8, h3, h4]
  rfl
theorem rec_ne (l : Lg) (hf : l.f = 3) (ht : l.t = 4) : recF l 1 ≠ recF l 2 := fun h => by
  have h1 := rec_head l 1 hf ht; have h2 := rec_head l 2 hf ht; rw [h, h2] at h1
  have a1 : (viS 1).data.toList = [2] := by decide +kernel
  have a2 : (viS 2).data.toList = [4] := by decide +kernel
  rw [a1, a2] at h1
  have := congrArg (fun s : List UInt8 => s[3]?) h1
  simp at this
theorem ent_ne (l : Lg) (e : Int) (hf : l.f = 3) (ht : l.t = 4) : enS ≠ recF l e := fun h => by
  have h1 := rec_head l e hf ht; rw [<- h] at h1
  have := congrArg (fun s : List UInt8 => s[0]?) h1
  simp [enS] at this
theorem fst_skip {s u v : ByteArray} (hu : s ≠ u) (hv : s ≠ v) (m : List ByteArray) : ∀ n : Nat, fstF u v (List.replicate n s ++ m) = fstF u v m
  | 0 => rfl
  | n + 1 => by
    rw [List.replicate_succ, L0w, fstF, if_neg hu, if_neg hv]; exact fst_skip hu hv m n
def coE (n : Nat) (e : Int) (u v : ByteArray) : List ByteArray := List.replicate n enS ++ if e = 1 then [u, v] else [v, u]
theorem coE_len (n : Nat) (e : Int) (u v : ByteArray) : (coE n e u v).length = n + 2 := by unfold coE; split <;> simp
def alN (n : Nat) : List Int := (List.range n).map fun j => ((j : Nat) : Int)
theorem alN_succ (n : Nat) : alN (n + 1) = alN n ++ [(n : Int)] := by simp [alN, L1h]
theorem alN_len (n : Nat) : (alN n).length = n := by simp [alN]
theorem pre_all (r : Rg) (k : Nat) : ∀ (m a : Nat), preN a (((List.range' a m).map fun j => ((j : Nat) : Int)).map fun i => Ja7 r k i.toNat) = (List.range' a m).map (gd r.l)
  | 0, a => rfl
  | m + 1, a => by
    rw [L1P, L0n, L0n, L0n, preN, if_pos (by simp [Ja7]), pre_all r k m (a + 1)]
    rfl
theorem range_take (l : List ByteArray) : ∀ (m : Nat), m <= l.length -> (List.range m).map (gd l) = l.take m
  | 0, _ => rfl
  | m + 1, h => by rw [L1h, L14, range_take l m (by omega), JuM l m (by omega)]; rfl
def coR (n : Nat) (e : Int) (u v : ByteArray) : Rg := ⟨0, coE n e u v⟩
def coP (n : Nat) (e : Int) (u v : ByteArray) (l : List Int) : Pt := ⟨Jer (keyF 0) (coR n e u v) (n + 2), l.map fun i => Ja7 (coR n e u v) (n + 2) i.toNat⟩
theorem co_show {n : Nat} {e : Int} {u v : ByteArray} {l : List Int} (hn : n <= 10) (hu : u.size <= 60) (hv : v.size <= 60) (hl : ascN (n + 2) none l = true) : Jc1 (keyF 0) (coR n e u v) ((n + 2 : Nat) : Int) l = some (coP n e u v l) := by
  have hlen := coE_len n e u v; unfold Jc1; rw [if_pos, L18]
  . rfl
  . refine ⟨JdF 0, Jb2.2 ⟨by simp only [coR]; omega, by simp only [coR]; omega, fun s hs => ?_⟩, by simp only [coR]; omega, by rw [L18]; exact hl⟩
    have hs : s ∈ coE n e u v := hs
    unfold coE at hs
    rcases L0v.1 hs with hs | hs
    . obtain rfl := (List.mem_replicate.1 hs).2; decide
    . split at hs <;> (rcases L0h.1 hs with rfl | hs; omega; obtain rfl := L0p.1 hs; omega)
theorem co_asc (n : Nat) : ascN (n + 2) none (alN (n + 1)) = true := by
  have := Jjc (n + 2) (n + 1) (by omega) (n + 1) 0 (by omega) none (fun q h => by cases h)
  rw [<- L1z] at this; exact this
theorem co_asc1 (n : Nat) : ascN (n + 2) none [((n : Int) + 1)] = true := by
  rw [ascN, ascN, Bool.and_true, decide_eq_true_iff]
  exact ⟨by omega, fun q h => by cases h⟩
theorem co_ev {n : Nat} {e : Int} {u v : ByteArray} (hn : n <= 10) (hu : u.size <= 60) (hv : v.size <= 60) : evF (keyF 0) (coP n e u v (alN (n + 1))) = List.replicate n enS ++ [if e = 1 then u else v] := by
  unfold evF; rw [if_pos (Jbn (co_show hn hu hv (co_asc n))).1]
  show preN 0 ((alN (n + 1)).map fun i => Ja7 (coR n e u v) (n + 2) i.toNat) = _
  unfold alN
  rw [L1z, pre_all, <- L1z, range_take _ _ (by rw [show (coR n e u v).l.length = n + 2 from coE_len n e u v]; omega)]
  show (coE n e u v).take (n + 1) = _
  unfold coE
  rw [List.take_append, L09 (by simp), List.length_replicate, Nat.add_sub_cancel_left]
  congr 1
  split <;> rfl
theorem co_ev1 {n : Nat} {e : Int} {u v : ByteArray} (hn : n <= 10) (hu : u.size <= 60) (hv : v.size <= 60) : evF (keyF 0) (coP n e u v [((n : Int) + 1)]) = [] := by
  unfold evF; rw [if_pos (Jbn (co_show hn hu hv (co_asc1 n))).1]
  show preN 0 [Ja7 (coR n e u v) (n + 2) ((n : Int) + 1).toNat] = []
  rw [preN, if_neg (by simp only [Ja7]; omega)]
theorem co_first {n : Nat} {e : Int} {u v : ByteArray} (he : e = 1 \/ e = 2) (huv : u ≠ v) (h1 : enS ≠ u) (h2 : enS ≠ v) : JaC (List.replicate n enS ++ [if e = 1 then u else v]) u v = e := by
  unfold JaC; rw [if_neg huv, fst_skip h1 h2]
  rcases he with rfl | rfl
  . rw [if_pos rfl, fstF, if_pos rfl]
  . rw [if_neg (by decide), fstF, if_neg (fun h => huv h.symm), if_pos rfl]
theorem bill_none {a b : Ck} {l : Lg} (h : Jbr a b l = none) : Jci [] a b l = ((0, 0), 0) := by
  unfold Jci; rw [h]
  have : JaC [] (recF l 1) (recF l 2) = 0 := by unfold JaC; split <;> rfl
  simp only [this]
  rfl
theorem bill_one {L : List ByteArray} {a b : Ck} {l : Lg} (h : Jbr a b l = none) (hf : JaC L (recF l 1) (recF l 2) = 1) : Jci L a b l = match Jbx a l.g with | some s => (JaZ s, 1) | none => ((0, 0), 0) := by
  unfold Jci; rw [h, hf]; rfl
theorem bill_two {L : List ByteArray} {a b : Ck} {l : Lg} (h : Jbr a b l = none) (hf : JaC L (recF l 1) (recF l 2) = 2) : Jci L a b l = match Jbx b l.k with | some s => (JaZ s, 2) | none => ((0, 0), 0) := by
  unfold Jci; rw [h, hf]; rfl
@[go_sem] theorem append_S2 (l : List ByteArray) (a b : ByteArray) : l.map Str ++ [.v (.string a), .v (.string b)] = (l ++ [a, b]).map Str := by simp
set_option maxHeartbeats 8000000 in
theorem contra_ev (y z : Cr) (f l m e w : Int) (hy : y.ok) (hz : z.ok) (hf : R64 f) (hl : R64 l) (hm : R64 m) (he : R64 e) (hw : R64 w) : Ev prog 9 [CRP y, CRP z, I f, I l, I m, I e, I w] (B true) := by
  have p1 := Jah (c := f) (n := 2000) (by omega)
  have p2 := Jah (c := l) (n := 900) (by omega)
  have p3 := Jah (c := m) (n := 5000) (by omega)
  have p4 := Jah (c := e) (n := 2) (by omega)
  have p5 := Jah (c := w) (n := 5) (by omega)
  have d0 := Jhd
  have d1 := Jbz f 2000 hf (by omega)
  have d2 := Jbz l 900 hl (by omega)
  have d3 := Jbo y hy; have d4 := Jbo z hz
  have d5 := JbD y (Jad f 2000) (Jad f 2000 + Jad l 900) hy (by omega) (by omega)
  have d6 := JbD z (Jad f 2000) (Jad f 2000 + Jad l 900) hz (by omega) (by omega)
  have d7 := Jbz m 5000 hm (by omega)
  have d8 := Jbz e 2 he (by omega)
  have d9 := Jbz w 5 hw (by omega)
  have k1 := Jb0.1 (JeM y (f := Jad f 2000) (t := Jad f 2000 + Jad l 900) (by omega) (by omega) (by omega))
  have k2 := Jb0.1 (JeM z (f := Jad f 2000) (t := Jad f 2000 + Jad l 900) (by omega) (by omega) (by omega))
  have k3 : (z.cnt (Jad f 2000) (Jad f 2000 + Jad l 900)).e <= 9000 := by
    have hd := Jah (c := z.d) (n := 101) (by omega)
    have := (JcG (d := Jad z.d 101) (by omega) z.s z.r (t := Jad f 2000 + Jad l 900) (by omega)).2
    simp only [Cr.cnt, Cr.show]; omega
  have l1 := JbJ y; have l2 := JbJ z; generalize y.cnt (Jad f 2000) (Jad f 2000 + Jad l 900) = C1 at *; generalize z.cnt (Jad f 2000) (Jad f 2000 + Jad l 900) = C2 at *; obtain ⟨c11, c12⟩ := C1; obtain ⟨c21, c22⟩ := C2
  simp only at *
  have hlg : legF ⟨3, 4, ⟨c11, c12⟩, ⟨c21, c22 + Jad m 5000⟩⟩ = true := JbN.2 ⟨by simp only; omega, Jb0.2 k1, Jb0.2 (by simp only; omega)⟩
  have d10 := Jdw y.clk z.clk ⟨3, 4, ⟨c11, c12⟩, ⟨c21, c22 + Jad m 5000⟩⟩ l1 l2
  cases hag : Jbr y.clk z.clk ⟨3, 4, ⟨c11, c12⟩, ⟨c21, c22 + Jad m 5000⟩⟩ with
  | some s =>
    rw [hag] at d10; generalize y.clk = K1 at *; generalize z.clk = K2 at *; generalize Jad f 2000 = a at *; generalize Jad l 900 = b at *; generalize Jad m 5000 = mm at *; obtain ⟨k11, k12⟩ := K1; obtain ⟨k21, k22⟩ := K2
    obtain ⟨⟨s1, s2⟩, ⟨s3, s4⟩⟩ := s
    obtain ⟨y1, y2, y3, y4⟩ := y; obtain ⟨z1, z2, z3, z4⟩ := z
    simp only at *
    refine EV func9 ?_
    simp -implicitDefEqProofs (disch := omega) only [go_sem, ntmps9]
    refine Jaa d0 ?_
    simp -implicitDefEqProofs (disch := omega) only [go_sem, false_and, and_self]
    refine Jaa d1 ?_
    simp -implicitDefEqProofs (disch := omega) only [go_sem, false_and, and_self]
    refine Jaa d2 ?_
    simp -implicitDefEqProofs (disch := omega) only [go_sem, false_and, and_self]
    refine Jaa d3 ?_
    simp -implicitDefEqProofs (disch := omega) only [go_sem, false_and, and_self]
    refine Jaa d4 ?_
    simp -implicitDefEqProofs (disch := omega) only [go_sem, false_and, and_self]
    refine Jaa d5 ?_
    simp -implicitDefEqProofs (disch := omega) only [go_sem, false_and, and_self]
    refine Jaa d6 ?_
    simp -implicitDefEqProofs (disch := omega) only [go_sem, false_and, and_self]
    refine Jaa d7 ?_
    simp -implicitDefEqProofs (disch := omega) only [go_sem, false_and, and_self]
    refine Jaa d10 ?_
    simp -implicitDefEqProofs (disch := omega) only [go_sem, results9]
  | none =>
  rw [hag] at d10; have r1 := JfX ⟨3, 4, ⟨c11, c12⟩, ⟨c21, c22 + Jad m 5000⟩⟩ 1; have r2 := JfX ⟨3, 4, ⟨c11, c12⟩, ⟨c21, c22 + Jad m 5000⟩⟩ 2
  rw [recV, if_pos ⟨hlg, by omega⟩] at r1 r2
  have z1 := Jg6 ⟨3, 4, ⟨c11, c12⟩, ⟨c21, c22 + Jad m 5000⟩⟩ 1; have z2 := Jg6 ⟨3, 4, ⟨c11, c12⟩, ⟨c21, c22 + Jad m 5000⟩⟩ 2
  obtain ⟨n, hn⟩ : ∃ n : Nat, Jad w 5 = n := ⟨(Jad w 5).toNat, by omega⟩
  have hn5 : n <= 10 := by omega
  have he12 : 1 + Jad e 2 = 1 \/ 1 + Jad e 2 = 2 := by omega
  have hfi := co_first (n := n) he12 (rec_ne ⟨3, 4, ⟨c11, c12⟩, ⟨c21, c22 + Jad m 5000⟩⟩ rfl rfl) (ent_ne _ 1 rfl rfl) (ent_ne _ 2 rfl rfl)
  have s1 := JfJ (keyF 0) (coR n (1 + Jad e 2) (recF ⟨3, 4, ⟨c11, c12⟩, ⟨c21, c22 + Jad m 5000⟩⟩ 1) (recF ⟨3, 4, ⟨c11, c12⟩, ⟨c21, c22 + Jad m 5000⟩⟩ 2)) ((n + 2 : Nat) : Int) (alN (n + 1)) (by rw [show (coR n (1 + Jad e 2) _ _).l.length = n + 2 from coE_len _ _ _ _]; omega) (by rw [alN_len]; omega) (fun x hx => by
    obtain ⟨j, hj, rfl⟩ := L06.1 hx
    have := L0P.1 hj
    exact ⟨by omega, by omega⟩)
  have s2 := JfJ (keyF 0) (coR n (1 + Jad e 2) (recF ⟨3, 4, ⟨c11, c12⟩, ⟨c21, c22 + Jad m 5000⟩⟩ 1) (recF ⟨3, 4, ⟨c11, c12⟩, ⟨c21, c22 + Jad m 5000⟩⟩ 2)) ((n + 2 : Nat) : Int) [(n : Int) + 1] (by rw [show (coR n (1 + Jad e 2) _ _).l.length = n + 2 from coE_len _ _ _ _]; omega) (by simp) (fun x hx => by obtain rfl := L0p.1 hx; exact ⟨by omega, by omega⟩)
  have w1 := co_show (e := 1 + Jad e 2) hn5 z1 z2 (co_asc n)
  have w2 := co_show (e := 1 + Jad e 2) hn5 z1 z2 (co_asc1 n)
  rw [w1] at s1; rw [w2] at s2
  have e1 := co_ev (n := n) (e := 1 + Jad e 2) hn5 z1 z2
  have e2 := co_ev1 (n := n) (e := 1 + Jad e 2) hn5 z1 z2
  have b1 := Jcc y.clk z.clk _ (keyF 0) _ hlg (JeD w1 (by rw [alN_len]; omega)) l1 l2
  have b2 := Jcc y.clk z.clk _ (keyF 0) _ hlg (JeD w2 (by simp)) l1 l2
  rw [e1] at b1; rw [e2, bill_none hag] at b2
  have q1 := fun h => bill_one hag (hfi.trans h)
  have q2 := fun h => bill_two hag (hfi.trans h)
  have t1 := JcI y.clk ⟨c11, c12⟩ l1; have t2 := JcI z.clk ⟨c21, c22 + Jad m 5000⟩ l2; have c1 := Jfk
  have ky := JoW 0 (by omega)
  have hEN : ∀ e u v, coE n e u v = List.replicate n enS ++ if e = 1 then [u, v] else [v, u] := fun e u v => rfl
  have hEl := coE_len n (1 + Jad e 2) (recF ⟨3, 4, ⟨c11, c12⟩, ⟨c21, c22 + Jad m 5000⟩⟩ 1) (recF ⟨3, 4, ⟨c11, c12⟩, ⟨c21, c22 + Jad m 5000⟩⟩ 2); have hE := hEN (1 + Jad e 2) (recF ⟨3, 4, ⟨c11, c12⟩, ⟨c21, c22 + Jad m 5000⟩⟩ 1) (recF ⟨3, 4, ⟨c11, c12⟩, ⟨c21, c22 + Jad m 5000⟩⟩ 2); simp only [coR] at s1 s2; clear hEN e1 e2 w1 w2 hfi hag hlg
  simp only at q1 q2
  generalize coP n (1 + Jad e 2) _ _ (alN (n + 1)) = PA at *; generalize coP n (1 + Jad e 2) _ _ [(n : Int) + 1] = PB at *; generalize Jci (List.replicate n enS ++ [_]) y.clk z.clk _ = W at *; generalize coE n (1 + Jad e 2) _ _ = EE at *; generalize recF ⟨3, 4, ⟨c11, c12⟩, ⟨c21, c22 + Jad m 5000⟩⟩ 1 = R1 at *; generalize recF ⟨3, 4, ⟨c11, c12⟩, ⟨c21, c22 + Jad m 5000⟩⟩ 2 = R2 at *; generalize Jbx y.clk ⟨c11, c12⟩ = sa at *; generalize Jbx z.clk ⟨c21, c22 + Jad m 5000⟩ = sb at *; generalize y.clk = K1 at *; generalize z.clk = K2 at *; generalize Jad f 2000 = a at *; generalize Jad l 900 = b at *; generalize Jad m 5000 = mm at *; generalize Jad e 2 = ee at *; generalize keyF 0 = KEY at *; rw [hn] at d9; have hal := alN_len; have hasu := alN_succ
  have ha0 : alN 0 = [] := rfl
  obtain ⟨k11, k12⟩ := K1; obtain ⟨k21, k22⟩ := K2
  obtain ⟨⟨w1, w2⟩, w3⟩ := W
  obtain ⟨y1, y2, y3, y4⟩ := y; obtain ⟨z1, z2, z3, z4⟩ := z
  obtain ⟨⟨pc, pn, pr, ps⟩, pl⟩ := PA
  obtain ⟨⟨qc, qn, qr, qs⟩, ql⟩ := PB
  simp only at *
  refine EV func9 ?_
  simp -implicitDefEqProofs (disch := omega) only [go_sem, ntmps9]
  refine Jaa d0 ?_
  simp -implicitDefEqProofs (disch := omega) only [go_sem, false_and, and_self]
  refine Jaa d1 ?_
  simp -implicitDefEqProofs (disch := omega) only [go_sem, false_and, and_self]
  refine Jaa d2 ?_
  simp -implicitDefEqProofs (disch := omega) only [go_sem, false_and, and_self]
  refine Jaa d3 ?_
  simp -implicitDefEqProofs (disch := omega) only [go_sem, false_and, and_self]
  refine Jaa d4 ?_
  simp -implicitDefEqProofs (disch := omega) only [go_sem, false_and, and_self]
  refine Jaa d5 ?_
  simp -implicitDefEqProofs (disch := omega) only [go_sem, false_and, and_self]
  refine Jaa d6 ?_
  simp -implicitDefEqProofs (disch := omega) only [go_sem, false_and, and_self]
  refine Jaa d7 ?_
  simp -implicitDefEqProofs (disch := omega) only [go_sem, false_and, and_self]
  refine Jaa d10 ?_
  simp -implicitDefEqProofs (disch := omega) only [go_sem, false_and, and_self]
  refine Jaa r1 ?_
  simp -implicitDefEqProofs (disch := omega) only [go_sem, false_and, and_self]
  refine Jaa r2 ?_
  simp -implicitDefEqProofs (disch := omega) only [go_sem, false_and, and_self]
  refine Jaa d8 ?_
  simp -implicitDefEqProofs (disch := omega) only [go_sem, false_and, and_self]
  refine Jag (fun k E σ => ∃ i : Nat, i + k = n /\ E 5 = I (1 + ee) /\ E 6 = I w /\ E 17 = .ptr 20971792 2 0 0 /\ E 18 = .ptr 20971808 2 0 0 /\ E 19 = .ptr 20971824 6 0 0 /\ E 22 = Str R1 /\ E 23 = I 0 /\ E 24 = Str R2 /\ E 25 = I 0 /\
    E 26 = .own 20971936 1 0 i /\ E 27 = .own 20971952 1 0 i /\ E 28 = I i /\ σ 20971792 = some ⟨58, 2, [.agg [I k11, RDS k12]]⟩ /\ σ 20971808 = some ⟨58, 2, [.agg [I k21, RDS k22]]⟩ /\
    σ 20971824 = some ⟨33, 6, [.agg [I 3, I 4, I c11, I c12, I c21, I (c22 + mm)]]⟩ /\ σ 20971936 = some ⟨9, 1, (List.replicate i enS).map Str⟩ /\ σ 20971952 = some ⟨3, 1, (alN i).map I⟩) n ⟨0, by omega, ?_⟩ ?_
  . simp -implicitDefEqProofs (disch := omega) only [go_sem, ha0]
    try ((repeat' apply And.intro) <;> rfl)
  rintro k E σ ⟨i, hk, e5, e6, e17, e18, e19, e22, e23, e24, e25, e26, e27, e28, m17, m18, m19, m26, m27⟩
  have hai := hal i; simp -implicitDefEqProofs (disch := omega) only [go_sem, false_and, and_self, e5, e6, e17, e18, e19, e22, e23, e24, e25, e26, e27, e28, m17, m18, m19, m26, m27]
  refine Jaa d9 ?_
  simp -implicitDefEqProofs (disch := omega) only [go_sem, false_and, and_self, e5, e6, e17, e18, e19, e22, e23, e24, e25, e26, e27, e28, m17, m18, m19, m26, m27]
  refine Jab (fun hc => ?_) (fun hc => ?_)
  . have s3 := hasu i
    have hen : (⟨#[101, 110, 116, 114, 121]⟩ : ByteArray) = enS := rfl
    have hrs : List.replicate (i + 1) enS = List.replicate i enS ++ [enS] := L2k ..
    have hrl : (List.replicate i enS).length = i := List.length_replicate
    generalize hA' : alN (i + 1) = A' at *; generalize alN i = A at *; generalize hR' : List.replicate (i + 1) enS = R' at *; generalize List.replicate i enS = R at *
    have q3 : A.take i = A := L09 (by omega)
    have q4 : R.take i = R := L09 (by omega)
    generalize hQ : Jlr _ k = Q; simp -implicitDefEqProofs (disch := omega) only [go_sem, false_and, and_self, e5, e6, e17, e18, e19, e22, e23, e24, e25, e26, e27, e28, m17, m18, m19, m26, m27, hai, hrl, q3, q4]; rw [<- hQ]; clear hQ
    refine Jae (n - (i + 1)) (by omega) ⟨i + 1, by omega, ?_⟩
    rw [hA', hR', s3, hrs]; simp -implicitDefEqProofs (disch := omega) only [go_sem, false_and, and_self, e5, e6, e17, e18, e19, e22, e23, e24, e25, e26, e27, e28, m17, m18, m19, m26, m27, hai, hrl, q3, q4, hen]
    try simp [hen]
  obtain rfl : i = n := by omega
  have hrl : (List.replicate i enS).length = i := List.length_replicate
  have s3 := hasu i; generalize alN (i + 1) = A' at *; generalize alN i = A at *; generalize List.replicate i enS = R at *
  have q3 : A.take i = A := L09 (by omega)
  have q4 : R.take i = R := L09 (by omega)
  simp -implicitDefEqProofs (disch := omega) only [go_sem, false_and, and_self, e5, e6, e17, e18, e19, e22, e23, e24, e25, e26, e27, e28, m17, m18, m19, m26, m27]
  refine JbA (fun E σ => E 5 = I (1 + ee) /\ E 17 = .ptr 20971792 2 0 0 /\ E 18 = .ptr 20971808 2 0 0 /\ E 19 = .ptr 20971824 6 0 0 /\ E 22 = Str R1 /\ E 23 = I 0 /\ E 24 = Str R2 /\ E 25 = I 0 /\
    E 26 = .own 20971936 1 0 (i + 2) /\ E 27 = .own 20971952 1 0 i /\ σ 20971792 = some ⟨58, 2, [.agg [I k11, RDS k12]]⟩ /\ σ 20971808 = some ⟨58, 2, [.agg [I k21, RDS k22]]⟩ /\
    σ 20971824 = some ⟨33, 6, [.agg [I 3, I 4, I c11, I c12, I c21, I (c22 + mm)]]⟩ /\ σ 20971936 = some ⟨9, 1, EE.map Str⟩ /\ σ 20971952 = some ⟨3, 1, A.map I⟩) (fun h0 => ?_) (fun h0 => ?_) ?_
  . rw [if_pos h0] at hE; rw [hE]; simp -implicitDefEqProofs (disch := omega) only [go_sem, false_and, and_self, e5, e6, e17, e18, e19, e22, e23, e24, e25, e26, e27, e28, m17, m18, m19, m26, m27, hrl, q4]
    try ((repeat' apply And.intro) <;> rfl)
  . rw [if_neg h0] at hE; rw [hE]; simp -implicitDefEqProofs (disch := omega) only [go_sem, false_and, and_self, e5, e6, e17, e18, e19, e22, e23, e24, e25, e26, e27, e28, m17, m18, m19, m26, m27, hrl, q4]
    try ((repeat' apply And.intro) <;> rfl)
  clear e5 e6 e17 e18 e19 e22 e23 e24 e25 e26 e27 e28 m17 m18 m19 m26 m27 E σ hE
  rintro E σ ⟨e5, e17, e18, e19, e22, e23, e24, e25, e26, e27, m17, m18, m19, m26, m27⟩
  have q5 : EE.take (i + 2) = EE := L09 (by omega)
  have hi2 : ((i + 2 : Nat) : Int) - 2 = (i : Int) := by omega
  have hi1 : ((i + 2 : Nat) : Int) - 1 = (i : Int) + 1 := by omega
  have hA1 : A'.length = i + 1 := by rw [s3, L08, hai]; rfl
  have q6 : A'.take (i + 1) = A' := L09 (by omega)
  simp -implicitDefEqProofs (disch := omega) only [go_sem, false_and, and_self, e5, e17, e18, e19, e22, e23, e24, e25, e26, e27, m17, m18, m19, m26, m27, hi2, hai, q3, <- s3]
  refine Jaa ky ?_
  simp -implicitDefEqProofs (disch := omega) only [go_sem, false_and, and_self, e5, e17, e18, e19, e22, e23, e24, e25, e26, e27, m17, m18, m19, m26, m27, hi2, hai, q3, <- s3]
  refine Jam rfl ?_
  refine JaS [20971936, 20971952] ?_
  simp -implicitDefEqProofs (disch := omega) only [go_sem, false_and, and_self, e5, e17, e18, e19, e22, e23, e24, e25, e26, e27, m17, m18, m19, m26, m27, hi2, hai, q3, <- s3, q5, q6, hEl, L05, hA1]
  refine Jaa s1 ?_
  simp -implicitDefEqProofs (disch := omega) only [go_sem, false_and, and_self, e5, e17, e18, e19, e22, e23, e24, e25, e26, e27, m17, m18, m19, m26, m27, hi1, hai, q3, <- s3, q5, q6, hEl, L05, hA1]
  refine Jam rfl ?_
  refine JaS [20973872] ?_
  simp -implicitDefEqProofs (disch := omega) only [go_sem, false_and, and_self, e5, e17, e18, e19, e22, e23, e24, e25, e26, e27, m17, m18, m19, m26, m27, hi1, hai, q3, <- s3, q5, q6, hEl, L05, hA1]
  refine Jaa s2 ?_
  simp -implicitDefEqProofs (disch := omega) only [go_sem, false_and, and_self, e5, e17, e18, e19, e22, e23, e24, e25, e26, e27, m17, m18, m19, m26, m27, hi1]
  refine Jaa b1 ?_
  simp -implicitDefEqProofs (disch := omega) only [go_sem, false_and, and_self, e5, e17, e18, e19, e22, e23, e24, e25, e26, e27, m17, m18, m19, m26, m27, hi1]
  refine Jaa b2 ?_
  simp -implicitDefEqProofs (disch := omega) only [go_sem, false_and, and_self, e5, e17, e18, e19, e22, e23, e24, e25, e26, e27, m17, m18, m19, m26, m27, hi1]
  refine Jab (fun h0 => ?_) (fun h0 => ?_)
  . have q2 := q2 h0; simp -implicitDefEqProofs (disch := omega) only [go_sem, false_and, and_self, e5, e17, e18, e19, e22, e23, e24, e25, e26, e27, m17, m18, m19, m26, m27, hi1]
    cases sb with
    | none =>
      refine Jaa t2 ?_
      simp only [Prod.mk.injEq] at q2
      obtain ⟨⟨rfl, rfl⟩, rfl⟩ := q2
      simp -implicitDefEqProofs (disch := omega) only [go_sem, false_and, and_self, e5, e17, e18, e19, m17, m18, m19, results9]; try rfl
    | some s =>
      refine Jaa t2 ?_
      have c1 := c1 s; simp only [Prod.mk.injEq] at q2; obtain ⟨q7, rfl⟩ := q2; rw [<- q7] at c1; simp -implicitDefEqProofs (disch := omega) only [go_sem, false_and, and_self, e5, e17, e18, e19, m17, m18, m19]
      refine Jab (fun h3 => ?_) (fun h3 => absurd h0.symm h3)
      simp -implicitDefEqProofs (disch := omega) only [go_sem, false_and, and_self, e5, e17, e18, e19, m17, m18, m19]
      refine Jaa c1 ?_
      simp -implicitDefEqProofs (disch := omega) only [go_sem, false_and, and_self, e5, e17, e18, e19, m17, m18, m19, results9]; try simp
  . have q1 := q1 (by omega)
    simp -implicitDefEqProofs (disch := omega) only [go_sem, false_and, and_self, e5, e17, e18, e19, e22, e23, e24, e25, e26, e27, m17, m18, m19, m26, m27, hi1]
    cases sa with
    | none =>
      refine Jaa t1 ?_
      simp only [Prod.mk.injEq] at q1
      obtain ⟨⟨rfl, rfl⟩, rfl⟩ := q1
      simp -implicitDefEqProofs (disch := omega) only [go_sem, false_and, and_self, e5, e17, e18, e19, m17, m18, m19, results9]; try rfl
    | some s =>
      refine Jaa t1 ?_
      have c1 := c1 s; simp only [Prod.mk.injEq] at q1; obtain ⟨q7, rfl⟩ := q1; rw [<- q7] at c1; simp -implicitDefEqProofs (disch := omega) only [go_sem, false_and, and_self, e5, e17, e18, e19, m17, m18, m19]
      refine Jab (fun h3 => ?_) (fun h3 => absurd (show (1 : Int) = 1 + ee by omega) h3)
      simp -implicitDefEqProofs (disch := omega) only [go_sem, false_and, and_self, e5, e17, e18, e19, m17, m18, m19]
      refine Jaa c1 ?_
      simp -implicitDefEqProofs (disch := omega) only [go_sem, false_and, and_self, e5, e17, e18, e19, m17, m18, m19, results9]; try simp
theorem legContradicts_lifted (os : Os) (started : os.Started) (H : Type) (enc : TypeId × Value -> H) :
    ReturnsInHanded {} Tryz.checked os 9 .any (fun w args => (Rows.legContradictsSpec.pre enc prog Tryz.f9 [] false w args /\ laidMetH prog Jdt w) /\ sizedMet enc prog Tryz.f9 (OpenSpec.ofChange Rows.legContradictsSpec) false w args)
      (Rows.legContradictsSpec.post enc prog Tryz.f9 false true false false) :=
  JgO (C := Tryz.checked) (tb := 4) (ps := [OC, OC, OI, OI, OI, OI, OI]) (X := fun w _ => laidMetH prog Jdt w) (fun _ _ _ hh h => h.of_heap hh) own3 started (by kernel_rfl) func9
    (ChangeSpec.witness_shaped (enc := enc) (C := Tryz.checked) (os := os) (X := fun w _ => laidMetH prog Jdt w) false (World.doorLaid prog 14 os) #[.agg #[.int .i64 0, .int .i64 0, .slice none 0 0, .slice none 0 0], .agg #[.int .i64 0, .int .i64 0, .slice none 0 0, .slice none 0 0], .int .i64 0, .int .i64 0, .int .i64 0, .int .i64 0, .int .i64 0] 8 rfl (World.shaped_of_RefB (by kernel_rfl) (by kernel_rfl)) (by kernel_rfl) (by kernel_rfl) (by kernel_rfl) (JeN os _))
    JeU (by kernel_rfl) (by kernel_rfl) (by kernel_rfl) rfl (JCf fun _ _ _ _ _ _ _ => rfl)
    (fun w => ⟨Jd0, Jd0, Jdh (by kernel_rfl), Jdh (by kernel_rfl), Jdh (by kernel_rfl), Jdh (by kernel_rfl), Jdh (by kernel_rfl), trivial⟩)
    (Jr8 fun a0 a1 a2 a3 a4 a5 a6 h0 h1 h2 h3 h4 h5 h6 => by
      obtain ⟨x0, hx0, rfl⟩ := h0; obtain ⟨x1, hx1, rfl⟩ := h1; obtain ⟨x2, hx2, rfl⟩ := h2; obtain ⟨x3, hx3, rfl⟩ := h3; obtain ⟨x4, hx4, rfl⟩ := h4; obtain ⟨x5, hx5, rfl⟩ := h5; obtain ⟨x6, hx6, rfl⟩ := h6
      exact contra_ev x0 x1 x2 x3 x4 x5 x6 hx0 hx1 hx2 hx3 hx4 hx5 hx6)
    (fun _ _ h => gok h)
theorem legContradicts_row : Rows.LegContradictsSaid :=
  OpenClaim.holds_of_wide 9 Tryz.f9 rfl rfl rfl rfl rfl rfl rfl ⟨rfl, rfl, rfl, rfl, rfl⟩ rfl rfl rfl rfl rfl (by kernel_rfl) func9 (by kernel_rfl)
    (of_decide_eq_true (by kernel_rfl)) (by unfold Func.isWrapper; first | (rw [if_pos (by decide +kernel)]; kernel_rfl) | (rw [if_neg (by decide +kernel)]; exact ⟨rfl, rfl⟩))
    (fun os started H enc _ => legContradicts_lifted os started H enc)
theorem legContradicts_holds : Rows.LegContradictsCardSaid :=
  Claim7.holds_tied_plain_at .later [] [.data] true (true, "43ff5d6d438086e88ed6ccc25955440aba0cd482b19469407fb38ba16744b6d5") false
    legContradicts_row (fun _ h => by cases h) (by kernel_rfl) (fun _ h => by cases h) legContradicts_row_tie rfl ⟨rfl, rfl⟩ (by kernel_rfl) rfl
    (fun f fn hf hfn => by
      obtain rfl : f = 9 := Option.some.inj ((show prog.funcNamed "dialtone/dialtonelaw38.LegContradicts" = some 9 by kernel_rfl).symm.trans hf) |>.symm
      obtain rfl : fn = Tryz.f9 := (Option.some.inj (func9.symm.trans hfn)).symm
      exact ⟨by kernel_rfl, fun j t ht => by
          rw [Tryz.params9] at ht
          rcases j with _ | j
          . obtain rfl : t = 35 := by simpa using ht.symm
            exact (show prog.wantsStandIn 35 = false by kernel_rfl)
          rcases j with _ | j
          . obtain rfl : t = 35 := by simpa using ht.symm
            exact (show prog.wantsStandIn 35 = false by kernel_rfl)
          rcases j with _ | j
          . obtain rfl : t = 3 := by simpa using ht.symm
            exact (show prog.wantsStandIn 3 = false by kernel_rfl)
          rcases j with _ | j
          . obtain rfl : t = 3 := by simpa using ht.symm
            exact (show prog.wantsStandIn 3 = false by kernel_rfl)
          rcases j with _ | j
          . obtain rfl : t = 3 := by simpa using ht.symm
            exact (show prog.wantsStandIn 3 = false by kernel_rfl)
          rcases j with _ | j
          . obtain rfl : t = 3 := by simpa using ht.symm
            exact (show prog.wantsStandIn 3 = false by kernel_rfl)
          rcases j with _ | j
          . obtain rfl : t = 3 := by simpa using ht.symm
            exact (show prog.wantsStandIn 3 = false by kernel_rfl)
          simp at ht⟩)
    (by kernel_rfl)
#print axioms legContradicts_holds
end Go.Proofs.YtnpbhgeffapojaaGreatDoor

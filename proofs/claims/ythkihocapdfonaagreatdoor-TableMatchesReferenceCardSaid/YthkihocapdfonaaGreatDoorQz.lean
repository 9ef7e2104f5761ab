/- Chapter 23, TableMatchesReference: all functions agree with the reference implementation. Conditions: the package variable digest.round reads as the program's text lays it (tied). -/
import Derived.Test.YthkihocapdfonaaGreatDoorKH
set_option linter.unusedVariables false
set_option linter.unusedSimpArgs false
set_option maxRecDepth 100000
namespace Go.Proofs.YthkihocapdfonaaGreatDoor
open Go.Vai Go Go.Proofs
open Nat (reduceEqDiff reduceMul reduceAdd reduceDiv reduceLeDiff)
open Int (reduceToNat reduceNe reduceEq reduceLT reduceLE)
abbrev P2 (p : Int × Int) : AV := .agg [I p.1, I p.2]
@[go_sem] theorem namesL_P2 (p : Nat → Bool) (l : List (Int × Int)) : AV.namesL p (l.map P2) = false := namesL_map p l P2 fun _ => rfl
@[go_sem] theorem namesL_UPSs (p : Nat → Bool) (l : List (List Up)) : AV.namesL p (l.map UPS) = false := namesL_map p l UPS fun _ => rfl
theorem dn_UPS (l : List Up) : (UPS l).dn = false := dnL_map l UP fun _ => rfl
theorem difF_len (a b : List Bk) : (difF a b).length ≤ 100000000 := by
  have h1 := dif_fold_len (pcsN 100000000 a b 0) []
  have h2 := pcsN_len 100000000 a b 0
  unfold difF; simp only [List.length_nil] at h1; omega
set_option maxHeartbeats 8000000 in
theorem matches_ev (x : List Q4) (b0 b1 b2 : Int) (raw : List Up) (number a b t lag : Int) (hn : x.length ≤ 9223372036854775807) (hx : ∀ q ∈ x, q.ok) (h0 : R64 b0) (h1 : R64 b1) (h2 : R64 b2) (hrl : raw.length ≤ 9223372036854775807) (hnu : R64 number) (ha : R64 a) (hb : R64 b) (ht0 : R64 t) (hlg : R64 lag) : Ev Tryz.prog 4 [QL x, .agg [I b0, I b1, I b2], UPS raw, I number, I a, I b, I t, I lag] (B true) := by
  have c0 := made_ev x hx hn
  have ht := madeF_valid x
  have h14 := madeF_len x
  generalize madeF x = m at *
  have cb := bent_ev m b0 b1 b2 h14 h0 h1 h2
  have hbl := bentF_length m b0 b1 b2 h14
  generalize bentF m b0 b1 b2 = bt at *
  have cn := near_ev m number t (by omega) (validT_nb ht) hnu ht0
  generalize nearF m number t = nr at *
  refine ev_of Tryz.func4 rfl (by kernel_rfl) mo (Nat.le_of_ble_eq_true rfl) ?_
  simp -implicitDefEqProofs (disch := omega) only [go_sem, Tryz.ntmps4]
  refine callC_at sane_ev ?_
  simp -implicitDefEqProofs (disch := omega) only [go_sem]
  refine callC_at c0 ?_
  simp -implicitDefEqProofs (disch := omega) only [go_sem]
  refine callC_at cb ?_ (h4 := .inr (dn_UPS _))
  simp -implicitDefEqProofs (disch := omega) only [go_sem]
  obtain ⟨ts, hts⟩ : ∃ ts, [m, bt, raw.take 41] = ts := ⟨_, rfl⟩
  have hlen : ts.length = 3 := by rw [← hts]; rfl
  have hall : ∀ z ∈ ts, z.length ≤ 41 := by
    rw [← hts]; intro z hz
    simp only [List.mem_cons, List.not_mem_nil, or_false] at hz
    rcases hz with rfl | rfl | rfl
    · omega
    · omega
    · rw [List.length_take]; omega
  have hraw : ∀ k : Nat, (k : Int) = min (raw.length : Int) 41 → raw.take k = raw.take 41 := fun k hk => by
    by_cases h : raw.length ≤ 41
    · rw [List.take_of_length_le (by omega), List.take_of_length_le h]
    · rw [show k = 41 by omega]
  refine loopC_mk (fun k E σ => ∃ j : Nat, j + k = 3 ∧ E 3 = I number ∧ E 4 = I a ∧ E 5 = I b ∧ E 6 = I t ∧ E 7 = I lag ∧ E 17 = UPS m ∧ E 82 = .own 10487072 1 0 3 ∧ σ 10487072 = some ⟨25, 1, ts.map UPS⟩ ∧ E 83 = I 3 ∧ E 84 = I j) 3 ⟨0, by omega, ?_⟩ ?_
  · simp -implicitDefEqProofs (disch := omega) only [go_sem]
    rw [Nat.sub_zero, hraw _ (by omega), ← hts]
    exact ⟨rfl, rfl, rfl⟩
  rintro k E σ ⟨j, hk, e3, e4, e5, e6, e7, e17, e82, s82, e83, e84⟩
  simp -implicitDefEqProofs (disch := omega) only [go_sem, e3, e4, e5, e6, e7, e17, e82, s82, e83, e84]
  refine branch_mk (fun hc => ?_) (fun hc => ?_)
  · have hl41 := hall _ (gd_mem ts j (by omega))
    simp -implicitDefEqProofs (disch := omega) only [go_sem, e3, e4, e5, e6, e7, e17, e82, s82, e83, e84, hlen]
    generalize gd ts j = l at *
    have cv1 := tvalid_ev l (by omega)
    have cv2 := tvalidR_ev l (by omega)
    have cc1 := compact_ev l (by omega)
    have cc2 := compactR_ev l (by omega)
    have hC : (if validT l = true then compT l else []).length ≤ 1000 := by
      by_cases hv : validT l = true
      · rw [if_pos hv]
        have := (validB_iff.1 (mapV_spec hv (v := l.length) (Nat.le_refl _)).1).1
        unfold compT compF; rw [List.length_map]; omega
      · rw [if_neg hv]; simp
    have csU := fun C (h : C.length ≤ 1000) => sameU_ev C C (by omega) (by omega)
    have cpa := pick_ev a ((l.length : Int) + 1) ha (by omega)
    have cpb := pick_ev b ((l.length : Int) + 1) hb (by omega)
    have cpt := pick_ev t 60 ht0 (by omega)
    have cpl := pick_ev lag 20 hlg (by omega)
    generalize pickF a ((l.length : Int) + 1) = pa at *
    generalize pickF b ((l.length : Int) + 1) = pb at *
    generalize pickF t 60 = pt at *
    generalize pickF lag 20 = pl at *
    generalize (if validT l = true then compT l else []) = C at *
    generalize (if validT l = true then (0 : Int) else 230) = eC at *
    generalize validT l = vl at *
    refine callC_at cv1 ?_
    simp -implicitDefEqProofs (disch := omega) only [go_sem, e3, e4, e5, e6, e7, e17, e82, s82, e83, e84, hlen]
    refine callC_at cv2 ?_
    simp -implicitDefEqProofs (disch := omega) only [go_sem, e3, e4, e5, e6, e7, e17, e82, s82, e83, e84, hlen]
    refine callC_at cc1 ?_
    simp -implicitDefEqProofs (disch := omega) only [go_sem, e3, e4, e5, e6, e7, e17, e82, s82, e83, e84, hlen]
    refine callC_at cc2 ?_
    simp -implicitDefEqProofs (disch := omega) only [go_sem, e3, e4, e5, e6, e7, e17, e82, s82, e83, e84, hlen]
    refine callC_at (csU C hC) ?_
    simp -implicitDefEqProofs (disch := omega) only [go_sem, e3, e4, e5, e6, e7, e17, e82, s82, e83, e84, hlen]
    refine callC_at cpa ?_
    simp -implicitDefEqProofs (disch := omega) only [go_sem, e3, e4, e5, e6, e7, e17, e82, s82, e83, e84, hlen]
    refine callC_at cpb ?_
    simp -implicitDefEqProofs (disch := omega) only [go_sem, e3, e4, e5, e6, e7, e17, e82, s82, e83, e84, hlen]
    obtain ⟨ps, hps⟩ : ∃ ps, [(a, b), (pa, pb)] = ps := ⟨_, rfl⟩
    have hpl : ps.length = 2 := by rw [← hps]; rfl
    refine loopC_mk (fun k E σ => ∃ i : Nat, i + k = 2 ∧ E 3 = I number ∧ E 4 = I a ∧ E 5 = I b ∧ E 6 = I t ∧ E 7 = I lag ∧ E 17 = UPS m ∧ E 82 = .own 10487072 1 0 3 ∧ σ 10487072 = some ⟨25, 1, ts.map UPS⟩ ∧ E 83 = I 3 ∧ E 84 = I j ∧ E 19 = UPS l ∧ E 126 = .own 10487776 2 0 2 ∧ σ 10487776 = some ⟨41, 2, ps.map P2⟩ ∧ E 127 = I 2 ∧ E 128 = I i) 2 ⟨0, by omega, ?_⟩ ?_
    · simp -implicitDefEqProofs (disch := omega) only [go_sem, e3, e4, e5, e6, e7, e17, e82, s82, e83, e84, hlen]
      rw [← hps]
      exact ⟨rfl, rfl, rfl⟩
    clear e3 e4 e5 e6 e7 e17 e82 s82 e83 e84 E σ
    rintro k2 E σ ⟨i, hk2, e3, e4, e5, e6, e7, e17, e82, s82, e83, e84, e19, e126, s126, e127, e128⟩
    simp -implicitDefEqProofs (disch := omega) only [go_sem, e3, e4, e5, e6, e7, e17, e82, s82, e83, e84, e19, e126, s126, e127, e128]
    refine branch_mk (fun hc2 => ?_) (fun hc2 => ?_)
    · simp -implicitDefEqProofs (disch := omega) only [go_sem, e3, e4, e5, e6, e7, e17, e82, s82, e83, e84, e19, e126, s126, e127, e128, hpl]
      generalize gd ps i = vw at *
      obtain ⟨v, w⟩ := vw
      have cm1 := map_ev l v (by omega)
      have cm2 := mapR_ev l v (by omega)
      have hM : (if inV l v then mapV l v.toNat else []).length ≤ 1000 := by
        by_cases hv : inV l v
        · rw [if_pos hv]
          have := (validB_iff.1 (mapV_spec hv.1 (v := v.toNat) (by have := hv.2; omega)).1).1
          omega
        · rw [if_neg hv]; simp
      have cd1 := tdiffer_ev l v w (by omega)
      have cd2 := tdifferR_ev l v w (by omega)
      have hD : (if inV l v ∧ inV l w then difF (mapV l v.toNat) (mapV l w.toNat) else []).length ≤ 100000000 := by
        split
        · exact difF_len _ _
        · simp
      have ch1 := head_ev l v (by omega)
      have ch2 := headR23_ev l v (by omega)
      have chv := fun n => held_ev l n v (by omega)
      have chv2 := fun n => heldR2_ev l n v (by omega)
      have csi := fun n => since_ev l n v (by omega)
      have csi2 := fun n => sinceR_ev l n v (by omega)
      have cbt := fun n => between_ev l n v w (by omega)
      have cbt2 := fun n => betweenR_ev l n v w (by omega)
      have hB : ∀ n, (if inB l n v w then betF l n v.toNat w.toNat else []).length ≤ 1000 := fun n => by
        split
        · have : (betF l n v.toNat w.toNat).length ≤ 9 := by unfold betF; exact Nat.le_trans (List.length_filter_le _ _) (by simp [crs])
          omega
        · simp
      generalize (if inV l v then mapV l v.toNat else []) = M at *
      generalize (if inV l v then (0 : Int) else 230) = eM at *
      generalize (if inV l v ∧ inV l w then difF (mapV l v.toNat) (mapV l w.toNat) else []) = Dd at *
      generalize (if inV l v ∧ inV l w then (0 : Int) else 230) = eD at *
      generalize (if inV l v then headN l v.toNat else ⟨#[]⟩) = Hd at *
      have csB := sameB_ev M M (by omega) (by omega)
      have csR := sameR_ev Dd Dd (by omega) (by omega)
      simp -implicitDefEqProofs (disch := omega) only [go_sem, e3, e4, e5, e6, e7, e17, e82, s82, e83, e84, e19, e126, s126, e127, e128, hpl]
      refine callC_at cm1 ?_
      simp -implicitDefEqProofs (disch := omega) only [go_sem, e3, e4, e5, e6, e7, e17, e82, s82, e83, e84, e19, e126, s126, e127, e128, hpl]
      refine callC_at cm2 ?_
      simp -implicitDefEqProofs (disch := omega) only [go_sem, e3, e4, e5, e6, e7, e17, e82, s82, e83, e84, e19, e126, s126, e127, e128, hpl]
      refine callC_at cd1 ?_
      simp -implicitDefEqProofs (disch := omega) only [go_sem, e3, e4, e5, e6, e7, e17, e82, s82, e83, e84, e19, e126, s126, e127, e128, hpl]
      refine callC_at cd2 ?_
      simp -implicitDefEqProofs (disch := omega) only [go_sem, e3, e4, e5, e6, e7, e17, e82, s82, e83, e84, e19, e126, s126, e127, e128, hpl]
      refine callC_at ch1 ?_
      simp -implicitDefEqProofs (disch := omega) only [go_sem, e3, e4, e5, e6, e7, e17, e82, s82, e83, e84, e19, e126, s126, e127, e128, hpl]
      refine callC_at ch2 ?_
      simp -implicitDefEqProofs (disch := omega) only [go_sem, e3, e4, e5, e6, e7, e17, e82, s82, e83, e84, e19, e126, s126, e127, e128, hpl]
      refine callC_at csB ?_
      simp -implicitDefEqProofs (disch := omega) only [go_sem, e3, e4, e5, e6, e7, e17, e82, s82, e83, e84, e19, e126, s126, e127, e128, hpl]
      refine callC_at csR ?_
      simp -implicitDefEqProofs (disch := omega) only [go_sem, e3, e4, e5, e6, e7, e17, e82, s82, e83, e84, e19, e126, s126, e127, e128, hpl, str_beq]
      refine callC_at cn ?_
      simp -implicitDefEqProofs (disch := omega) only [go_sem, e3, e4, e5, e6, e7, e17, e82, s82, e83, e84, e19, e126, s126, e127, e128, hpl]
      obtain ⟨ns, hns⟩ : ∃ ns, [number, nr] = ns := ⟨_, rfl⟩
      have hnl : ns.length = 2 := by rw [← hns]; rfl
      refine loopC_mk (fun k E σ => ∃ h : Nat, h + k = 2 ∧ E 3 = I number ∧ E 4 = I a ∧ E 5 = I b ∧ E 6 = I t ∧ E 7 = I lag ∧ E 17 = UPS m ∧ E 82 = .own 10487072 1 0 3 ∧ σ 10487072 = some ⟨25, 1, ts.map UPS⟩ ∧ E 83 = I 3 ∧ E 84 = I j ∧ E 19 = UPS l ∧ E 126 = .own 10487776 2 0 2 ∧ σ 10487776 = some ⟨41, 2, ps.map P2⟩ ∧ E 127 = I 2 ∧ E 128 = I i ∧ E 25 = .ptr 10486160 2 0 0 ∧ σ 10486160 = some ⟨41, 2, [P2 (v, w)]⟩ ∧ E 213 = .own 10489168 1 0 2 ∧ σ 10489168 = some ⟨3, 1, ns.map I⟩ ∧ E 214 = I 2 ∧ E 215 = I h) 2 ⟨0, by omega, ?_⟩ ?_
      · simp -implicitDefEqProofs (disch := omega) only [go_sem, e3, e4, e5, e6, e7, e17, e82, s82, e83, e84, e19, e126, s126, e127, e128, hpl]
        rw [← hns]
        exact ⟨rfl, rfl, rfl⟩
      clear e3 e4 e5 e6 e7 e17 e82 s82 e83 e84 e19 e126 s126 e127 e128 E σ
      rintro k3 E σ ⟨h, hk3, e3, e4, e5, e6, e7, e17, e82, s82, e83, e84, e19, e126, s126, e127, e128, e25, s25, e213, s213, e214, e215⟩
      simp -implicitDefEqProofs (disch := omega) only [go_sem, e3, e4, e5, e6, e7, e17, e82, s82, e83, e84, e19, e126, s126, e127, e128, e25, s25, e213, s213, e214, e215]
      refine branch_mk (fun hc3 => ?_) (fun hc3 => ?_)
      · simp -implicitDefEqProofs (disch := omega) only [go_sem, e3, e4, e5, e6, e7, e17, e82, s82, e83, e84, e19, e126, s126, e127, e128, e25, s25, e213, s213, e214, e215, hnl]
        generalize gd ns h = n at *
        have g1 := chv n
        have g2 := chv2 n
        have g3 := csi n
        have g4 := csi2 n
        have g5 := cbt n
        have g6 := cbt2 n
        have hBn := hB n
        generalize (if inV l v ∧ 0 ≤ n ∧ n ≤ 99999999 then heldV l n v.toNat else 0) = qh at *
        generalize (if inV l v ∧ 0 ≤ n ∧ n ≤ 99999999 then (0 : Int) else 230) = eh at *
        generalize (if inV l v ∧ inN n then ((sinF l n v.toNat : Nat) : Int) else 0) = qs at *
        generalize (if inV l v ∧ inN n then (0 : Int) else 230) = es at *
        generalize (if inB l n v w then betF l n v.toNat w.toNat else []) = Bt at *
        generalize (if inB l n v w then (0 : Int) else 230) = eb at *
        have csI := sameI_ev Bt Bt (by omega) (by omega)
        refine callC_at g1 ?_
        simp -implicitDefEqProofs (disch := omega) only [go_sem, e3, e4, e5, e6, e7, e17, e82, s82, e83, e84, e19, e126, s126, e127, e128, e25, s25, e213, s213, e214, e215, hnl]
        refine callC_at g2 ?_
        simp -implicitDefEqProofs (disch := omega) only [go_sem, e3, e4, e5, e6, e7, e17, e82, s82, e83, e84, e19, e126, s126, e127, e128, e25, s25, e213, s213, e214, e215, hnl]
        refine callC_at g3 ?_
        simp -implicitDefEqProofs (disch := omega) only [go_sem, e3, e4, e5, e6, e7, e17, e82, s82, e83, e84, e19, e126, s126, e127, e128, e25, s25, e213, s213, e214, e215, hnl]
        refine callC_at g4 ?_
        simp -implicitDefEqProofs (disch := omega) only [go_sem, e3, e4, e5, e6, e7, e17, e82, s82, e83, e84, e19, e126, s126, e127, e128, e25, s25, e213, s213, e214, e215, hnl]
        refine callC_at g5 ?_
        simp -implicitDefEqProofs (disch := omega) only [go_sem, e3, e4, e5, e6, e7, e17, e82, s82, e83, e84, e19, e126, s126, e127, e128, e25, s25, e213, s213, e214, e215, hnl]
        refine callC_at g6 ?_
        simp -implicitDefEqProofs (disch := omega) only [go_sem, e3, e4, e5, e6, e7, e17, e82, s82, e83, e84, e19, e126, s126, e127, e128, e25, s25, e213, s213, e214, e215, hnl]
        refine callC_at csI ?_
        simp -implicitDefEqProofs (disch := omega) only [go_sem, e3, e4, e5, e6, e7, e17, e82, s82, e83, e84, e19, e126, s126, e127, e128, e25, s25, e213, s213, e214, e215, hnl]
        refine againQ_mk (2 - (h + 1)) (by omega) ⟨h + 1, by omega, ?_⟩
        simp -implicitDefEqProofs (disch := omega) only [go_sem, e3, e4, e5, e6, e7, e17, e82, s82, e83, e84, e19, e126, s126, e127, e128, e25, s25, e213, s213, e214, e215, hnl]
        rfl
      · simp -implicitDefEqProofs (disch := omega) only [go_sem, e3, e4, e5, e6, e7, e17, e82, s82, e83, e84, e19, e126, s126, e127, e128, e25, s25, e213, s213, e214, e215]
        refine againQ_mk (2 - (i + 1)) (by omega) ⟨i + 1, by omega, ?_⟩
        simp -implicitDefEqProofs (disch := omega) only [go_sem, e3, e4, e5, e6, e7, e17, e82, s82, e83, e84, e19, e126, s126, e127, e128, e25, s25, e213, s213, e214, e215]
        rfl
    · have hi2 : i = 2 := by omega
      simp -implicitDefEqProofs (disch := omega) only [go_sem, e3, e4, e5, e6, e7, e17, e82, s82, e83, e84, e19, e126, s126, e127, e128]
      refine callC_at cpt ?_
      simp -implicitDefEqProofs (disch := omega) only [go_sem, e3, e4, e5, e6, e7, e17, e82, s82, e83, e84, e19, e126, s126, e127, e128]
      refine callC_at cpl ?_
      simp -implicitDefEqProofs (disch := omega) only [go_sem, e3, e4, e5, e6, e7, e17, e82, s82, e83, e84, e19, e126, s126, e127, e128]
      obtain ⟨qs, hqs⟩ : ∃ qs, [(t, lag), (pt, pl)] = qs := ⟨_, rfl⟩
      have hql : qs.length = 2 := by rw [← hqs]; rfl
      clear hps hpl
      refine loopC_mk (fun k E σ => ∃ i : Nat, i + k = 2 ∧ E 3 = I number ∧ E 4 = I a ∧ E 5 = I b ∧ E 6 = I t ∧ E 7 = I lag ∧ E 17 = UPS m ∧ E 82 = .own 10487072 1 0 3 ∧ σ 10487072 = some ⟨25, 1, ts.map UPS⟩ ∧ E 83 = I 3 ∧ E 84 = I j ∧ E 19 = UPS l ∧ E 310 = .own 10490720 2 0 2 ∧ σ 10490720 = some ⟨41, 2, qs.map P2⟩ ∧ E 311 = I 2 ∧ E 312 = I i) 2 ⟨0, by omega, ?_⟩ ?_
      · simp -implicitDefEqProofs (disch := omega) only [go_sem, e3, e4, e5, e6, e7, e17, e82, s82, e83, e84, e19, e126, s126, e127, e128]
        rw [← hqs]
        exact ⟨rfl, rfl, rfl⟩
      clear e3 e4 e5 e6 e7 e17 e82 s82 e83 e84 e19 e126 s126 e127 e128 E σ
      rintro k4 E σ ⟨i, hk4, e3, e4, e5, e6, e7, e17, e82, s82, e83, e84, e19, e310, s310, e311, e312⟩
      simp -implicitDefEqProofs (disch := omega) only [go_sem, e3, e4, e5, e6, e7, e17, e82, s82, e83, e84, e19, e310, s310, e311, e312]
      refine branch_mk (fun hc4 => ?_) (fun hc4 => ?_)
      · simp -implicitDefEqProofs (disch := omega) only [go_sem, e3, e4, e5, e6, e7, e17, e82, s82, e83, e84, e19, e310, s310, e311, e312, hql]
        generalize gd qs i = vw at *
        obtain ⟨T, G⟩ := vw
        have ck1 := known_ev l T G (by omega)
        have ck2 := knownR_ev l T G (by omega)
        have cr1 := version_ev l T (by omega)
        have cr2 := versionR_ev l T (by omega)
        generalize (if inT l T G then ((atF l (T - G) : Nat) : Int) else 0) = z1 at *
        generalize (if inT l T G then ((atF l T : Nat) : Int) else 0) = z2 at *
        generalize (if inT l T G then (0 : Int) else 230) = z3 at *
        generalize (if inT l T 0 then ((atF l T : Nat) : Int) else 0) = z4 at *
        generalize (if inT l T 0 then (0 : Int) else 230) = z5 at *
        simp -implicitDefEqProofs (disch := omega) only [go_sem, e3, e4, e5, e6, e7, e17, e82, s82, e83, e84, e19, e310, s310, e311, e312, hql]
        refine callC_at cr1 ?_
        simp -implicitDefEqProofs (disch := omega) only [go_sem, e3, e4, e5, e6, e7, e17, e82, s82, e83, e84, e19, e310, s310, e311, e312, hql]
        refine callC_at cr2 ?_
        simp -implicitDefEqProofs (disch := omega) only [go_sem, e3, e4, e5, e6, e7, e17, e82, s82, e83, e84, e19, e310, s310, e311, e312, hql]
        refine callC_at ck1 ?_
        simp -implicitDefEqProofs (disch := omega) only [go_sem, e3, e4, e5, e6, e7, e17, e82, s82, e83, e84, e19, e310, s310, e311, e312, hql]
        refine callC_at ck2 ?_
        simp -implicitDefEqProofs (disch := omega) only [go_sem, e3, e4, e5, e6, e7, e17, e82, s82, e83, e84, e19, e310, s310, e311, e312, hql]
        refine againQ_mk (2 - (i + 1)) (by omega) ⟨i + 1, by omega, ?_⟩
        simp -implicitDefEqProofs (disch := omega) only [go_sem, e3, e4, e5, e6, e7, e17, e82, s82, e83, e84, e19, e310, s310, e311, e312, hql]
        rfl
      · simp -implicitDefEqProofs (disch := omega) only [go_sem, e3, e4, e5, e6, e7, e17, e82, s82, e83, e84, e19, e310, s310, e311, e312]
        refine againQ_mk (3 - (j + 1)) (by omega) ⟨j + 1, by omega, ?_⟩
        simp -implicitDefEqProofs (disch := omega) only [go_sem, e3, e4, e5, e6, e7, e17, e82, s82, e83, e84, e19, e310, s310, e311, e312]
        rfl
  · simp -implicitDefEqProofs (disch := omega) only [go_sem, e3, e4, e5, e6, e7, e17, e82, s82, e83, e84, Tryz.results4]
end Go.Proofs.YthkihocapdfonaaGreatDoor
set_option maxRecDepth 100000
namespace Go.Proofs.YthkihocapdfonaaGreatDoor
open Go.Vai Go Go.Proofs
open Nat (reduceEqDiff reduceMul reduceAdd reduceDiv reduceLeDiff)
open Int (reduceToNat reduceNe reduceEq reduceLT reduceLE)
theorem tableMatchesReference_lifted (os : Os) (started : os.Started) (H : Type) (enc : TypeId × Value → H) :
    ReturnsInHanded {} Tryz.checked os 4 .any (fun w args => (Rows.tableMatchesReferenceSpec.pre enc Tryz.prog Tryz.f4 [] false w args ∧ laidMetH Tryz.prog laid3 w) ∧ sizedMet enc Tryz.prog Tryz.f4 (OpenSpec.ofChange Rows.tableMatchesReferenceSpec) false w args)
      (Rows.tableMatchesReferenceSpec.post enc Tryz.prog Tryz.f4 false true false false) :=
  liftedG (C := Tryz.checked) (tb := 4) (ps := [OQ, OT, OU, OI, OI, OI, OI, OI]) (X := fun w _ => laidMetH Tryz.prog laid3 w) (fun _ _ _ hh h => h.of_heap hh) own3 started (by kernel_rfl) Tryz.func4
    (ChangeSpec.witness_shaped (enc := enc) (C := Tryz.checked) (os := os) (X := fun w _ => laidMetH Tryz.prog laid3 w) false (World.doorLaid Tryz.prog 14 os) #[.slice none 0 0, .agg #[.int .i64 0, .int .i64 0, .int .i64 0], .slice none 0 0, .int .i64 0, .int .i64 0, .int .i64 0, .int .i64 0, .int .i64 0] 8 rfl (World.shaped_of_RefB (by kernel_rfl) (by kernel_rfl)) (by kernel_rfl) (by kernel_rfl) (by kernel_rfl) (door_met os _))
    laidOut3 (by kernel_rfl) (by kernel_rfl) (by kernel_rfl) rfl (len_8 fun _ _ _ _ _ _ _ _ => rfl)
    (fun w => ⟨o_fours, o_three, o_ups, o_int (by kernel_rfl), o_int (by kernel_rfl), o_int (by kernel_rfl), o_int (by kernel_rfl), o_int (by kernel_rfl), trivial⟩)
    (allP_8 fun a0 a1 a2 a3 a4 a5 a6 a7 h0 h1 h2 h3 h4 h5 h6 h7 => by
      obtain ⟨x0, hx0, hr0, rfl⟩ := h0
      obtain ⟨x1, y1, z1, hx1, hy1, hz1, rfl⟩ := h1
      obtain ⟨x2, hx2, hr2, rfl⟩ := h2
      obtain ⟨x3, hx3, rfl⟩ := h3
      obtain ⟨x4, hx4, rfl⟩ := h4
      obtain ⟨x5, hx5, rfl⟩ := h5
      obtain ⟨x6, hx6, rfl⟩ := h6
      obtain ⟨x7, hx7, rfl⟩ := h7
      exact matches_ev x0 x1 y1 z1 x2 x3 x4 x5 x6 x7 hx0 hr0 hx1 hy1 hz1 hx2 hx3 hx4 hx5 hx6 hx7)
    (fun _ _ h => gok h)
theorem tableMatchesReference_row : Rows.TableMatchesReferenceSaid :=
  OpenClaim.holds_of_wide 4 Tryz.f4 rfl rfl rfl rfl rfl rfl rfl ⟨rfl, rfl, rfl, rfl, rfl⟩ rfl rfl rfl rfl rfl (by kernel_rfl) Tryz.func4 (by kernel_rfl)
    (of_decide_eq_true (by kernel_rfl)) (by unfold Func.isWrapper; first | (rw [if_pos (by decide +kernel)]; kernel_rfl) | (rw [if_neg (by decide +kernel)]; exact ⟨rfl, rfl⟩))
    (fun os started H enc _ => tableMatchesReference_lifted os started H enc)
theorem tableMatchesReference_holds : Rows.TableMatchesReferenceCardSaid :=
  Claim7.holds_tied_plain_at .later [] [.data] true (true, "4c8f8c949bc4f2625d4fe47a2fd5753e9a349a40582759a62b7e2e7c484e30b1") false
    tableMatchesReference_row (fun _ h => by cases h) (by kernel_rfl) (fun _ h => by cases h) tableMatchesReference_row_tie rfl ⟨rfl, rfl⟩ (by kernel_rfl) rfl
    (fun f fn hf hfn => by
      obtain rfl : f = 4 := Option.some.inj ((show Tryz.prog.funcNamed "dialtone/dialtonelaw23.TableMatchesReference" = some 4 by kernel_rfl).symm.trans hf) |>.symm
      obtain rfl : fn = Tryz.f4 := (Option.some.inj (Tryz.func4.symm.trans hfn)).symm
      exact ⟨by kernel_rfl, fun j t ht => by
          rw [Tryz.params4] at ht
          rcases j with _ | j
          · obtain rfl : t = 22 := by simpa using ht.symm
            exact (show Tryz.prog.wantsStandIn 22 = false by kernel_rfl)
          rcases j with _ | j
          · obtain rfl : t = 23 := by simpa using ht.symm
            exact (show Tryz.prog.wantsStandIn 23 = false by kernel_rfl)
          rcases j with _ | j
          · obtain rfl : t = 25 := by simpa using ht.symm
            exact (show Tryz.prog.wantsStandIn 25 = false by kernel_rfl)
          rcases j with _ | j
          · obtain rfl : t = 3 := by simpa using ht.symm
            exact (show Tryz.prog.wantsStandIn 3 = false by kernel_rfl)
          rcases j with _ | j
          · obtain rfl : t = 3 := by simpa using ht.symm
            exact (show Tryz.prog.wantsStandIn 3 = false by kernel_rfl)
          rcases j with _ | j
          · obtain rfl : t = 3 := by simpa using ht.symm
            exact (show Tryz.prog.wantsStandIn 3 = false by kernel_rfl)
          rcases j with _ | j
          · obtain rfl : t = 3 := by simpa using ht.symm
            exact (show Tryz.prog.wantsStandIn 3 = false by kernel_rfl)
          rcases j with _ | j
          · obtain rfl : t = 3 := by simpa using ht.symm
            exact (show Tryz.prog.wantsStandIn 3 = false by kernel_rfl)
          simp at ht⟩)
    (by kernel_rfl)
#print axioms tableMatchesReference_holds
end Go.Proofs.YthkihocapdfonaaGreatDoor

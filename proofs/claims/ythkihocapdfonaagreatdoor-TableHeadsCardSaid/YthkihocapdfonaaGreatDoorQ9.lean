/- Chapter 23, TableHeads: a head belongs to one table, or there is a collision. Conditions: the package variable digest.round reads as the program's text lays it (tied). -/
import Derived.Test.YthkihocapdfonaaGreatDoorKH
set_option linter.unusedVariables false
set_option linter.unusedSimpArgs false
set_option maxRecDepth 100000
namespace Go.Proofs.YthkihocapdfonaaGreatDoor
open Go.Vai Go Go.Proofs
open Nat (reduceEqDiff reduceMul reduceAdd reduceDiv reduceLeDiff)
open Int (reduceToNat reduceNe reduceEq reduceLT reduceLE)
@[go_sem] theorem namesL_UPSs (p : Nat → Bool) (l : List (List Up)) : AV.namesL p (l.map UPS) = false := namesL_map p l UPS fun _ => rfl
theorem dn_UPS (l : List Up) : (UPS l).dn = false := by
  show AV.dnL (l.map UP) = false
  cases h : AV.dnL (l.map UP) with
  | false => rfl
  | true => obtain ⟨c, hc, h2⟩ := (dnL_iff _).1 h; obtain ⟨x, _, rfl⟩ := List.mem_map.1 hc; cases h2
theorem hashN_size (l : List Up) (v : Nat) : ∀ s ∈ hashN l v, s.size ≤ 100000000 := fun s hs => by
  obtain ⟨i, _, rfl⟩ := List.mem_map.1 hs
  have h1 := headN_size l i
  have h2 := encU_size (gd l i)
  simp only [ByteArray.size_append]
  show 1 + _ ≤ _
  omega
set_option maxHeartbeats 2000000 in
theorem heads_ev (x y : List Q4) (b0 b1 b2 version : Int) (hn : x.length ≤ 9223372036854775807) (hx : ∀ q ∈ x, q.ok) (hny : y.length ≤ 9223372036854775807) (hy : ∀ q ∈ y, q.ok) (h0 : R64 b0) (h1 : R64 b1) (h2 : R64 b2) (hv : R64 version) : Ev Tryz.prog 3 [QL x, QL y, .agg [I b0, I b1, I b2], I version] (B true) := by
  have c0 := made_ev x hx hn
  have c1 := made_ev y hy hny
  have ht := madeF_valid x
  have h14 := madeF_len x
  have hm14 := madeF_len y
  generalize madeF x = l at *
  generalize madeF y = m at *
  have cb := bent_ev l b0 b1 b2 h14 h0 h1 h2
  have hbl := bentF_length l b0 b1 b2 h14
  generalize bentF l b0 b1 b2 = b at *
  refine ev_of Tryz.func3 rfl (by kernel_rfl) mo (Nat.le_of_ble_eq_true rfl) ?_
  simp -implicitDefEqProofs (disch := omega) only [go_sem, ↓reduceIte, reduceEqDiff, reduceMul, reduceAdd, reduceDiv, Nat.reduceBEq, reduceLeDiff, reduceToNat, reduceNe, reduceEq, reduceLT, reduceLE, Int.reduceBEq, Int.reduceBNe, Tryz.ntmps3]
  refine callC_at sane_ev ?_
  simp -implicitDefEqProofs (disch := omega) only [go_sem, ↓reduceIte, reduceEqDiff, reduceMul, reduceAdd, reduceDiv, Nat.reduceBEq, reduceLeDiff, reduceToNat, reduceNe, reduceEq, reduceLT, reduceLE, Int.reduceBEq, Int.reduceBNe]
  refine callC_at c0 ?_
  simp -implicitDefEqProofs (disch := omega) only [go_sem, ↓reduceIte, reduceEqDiff, reduceMul, reduceAdd, reduceDiv, Nat.reduceBEq, reduceLeDiff, reduceToNat, reduceNe, reduceEq, reduceLT, reduceLE, Int.reduceBEq, Int.reduceBNe]
  refine callC_at c1 ?_ (h4 := .inr (dn_UPS _))
  simp -implicitDefEqProofs (disch := omega) only [go_sem, ↓reduceIte, reduceEqDiff, reduceMul, reduceAdd, reduceDiv, Nat.reduceBEq, reduceLeDiff, reduceToNat, reduceNe, reduceEq, reduceLT, reduceLE, Int.reduceBEq, Int.reduceBNe]
  refine callC_at cb ?_ (h4 := .inr (dn_UPS _))
  simp -implicitDefEqProofs (disch := omega) only [go_sem, ↓reduceIte, reduceEqDiff, reduceMul, reduceAdd, reduceDiv, Nat.reduceBEq, reduceLeDiff, reduceToNat, reduceNe, reduceEq, reduceLT, reduceLE, Int.reduceBEq, Int.reduceBNe]
  obtain ⟨bs, hbs⟩ : ∃ bs, [m, b] = bs := ⟨_, rfl⟩
  have hlen : bs.length = 2 := by rw [← hbs]; rfl
  have hall : ∀ z ∈ bs, z.length ≤ 41 := by
    rw [← hbs]; intro z hz
    simp only [List.mem_cons, List.not_mem_nil, or_false] at hz
    rcases hz with rfl | rfl <;> omega
  refine loopC_mk (fun k E σ => ∃ j : Nat, j + k = 2 ∧ E 3 = I version ∧ E 9 = UPS l ∧ E 32 = .own 8389120 1 0 2 ∧ E 33 = I 2 ∧ E 34 = I j ∧ σ 8389120 = some ⟨25, 1, bs.map UPS⟩) 2 ⟨0, by omega, ?_⟩ ?_
  · simp -implicitDefEqProofs (disch := omega) only [go_sem, ↓reduceIte, reduceEqDiff, reduceMul, reduceAdd, reduceDiv, Nat.reduceBEq, reduceLeDiff, reduceToNat, reduceNe, reduceEq, reduceLT, reduceLE, Int.reduceBEq, Int.reduceBNe, ← hbs, List.map_cons, List.map_nil]
    exact ⟨rfl, rfl⟩
  rintro k E σ ⟨j, hk, e3, e9, e32, e33, e34, s32⟩
  simp -implicitDefEqProofs (disch := omega) only [go_sem, ↓reduceIte, reduceEqDiff, reduceMul, reduceAdd, reduceDiv, Nat.reduceBEq, reduceLeDiff, reduceToNat, reduceNe, reduceEq, reduceLT, reduceLE, Int.reduceBEq, Int.reduceBNe, e3, e9, e32, e33, e34, s32]
  refine branch_mk (fun hc => ?_) (fun hc => ?_)
  · have hb := hall _ (gd_mem bs j (by omega))
    have htv := tvalid_ev (gd bs j) (by omega)
    simp -implicitDefEqProofs (disch := omega) only [go_sem, ↓reduceIte, reduceEqDiff, reduceMul, reduceAdd, reduceDiv, Nat.reduceBEq, reduceLeDiff, reduceToNat, reduceNe, reduceEq, reduceLT, reduceLE, Int.reduceBEq, Int.reduceBNe, e3, e9, e32, e33, e34, s32, hlen]
    generalize gd bs j = z at *
    refine callC_at htv ?_
    by_cases hz : validT z = true
    case neg =>
      have hz : validT z = false := by simpa using hz
      simp -implicitDefEqProofs (disch := omega) only [go_sem, ↓reduceIte, reduceEqDiff, reduceMul, reduceAdd, reduceDiv, Nat.reduceBEq, reduceLeDiff, reduceToNat, reduceNe, reduceEq, reduceLT, reduceLE, Int.reduceBEq, Int.reduceBNe, hz, e3, e9, e32, e33, e34, s32, hlen]
      refine againQ_mk (2 - (j + 1)) (by omega) ⟨j + 1, by omega, ?_⟩
      simp -implicitDefEqProofs (disch := omega) only [go_sem, ↓reduceIte, reduceEqDiff, reduceMul, reduceAdd, reduceDiv, Nat.reduceBEq, reduceLeDiff, reduceToNat, reduceNe, reduceEq, reduceLT, reduceLE, Int.reduceBEq, Int.reduceBNe, e3, e9, e32, e33, e34, s32, hlen]
      rfl
    have cp := pick_ev version (min (l.length : Int) z.length + 1) hv (by omega)
    have hp := pickF_in (c := version) (n := min (l.length : Int) z.length + 1) (by omega)
    generalize pickF version (min (l.length : Int) z.length + 1) = V at *
    obtain ⟨v, rfl⟩ : ∃ v : Nat, V = v := ⟨V.toNat, by omega⟩
    have ch1 := head_at ht (v := v) (by omega)
    have ch2 := head_at hz (v := v) (by omega)
    have csm := sameU_ev (l.take v) (z.take v) (by rw [List.length_take]; omega) (by rw [List.length_take]; omega)
    have cx1 := hashedR_ev l v (by omega) (by omega) (validT_nb ht)
    have cx2 := hashedR_ev z v (by omega) (by omega) (validT_nb hz)
    have ccol := collided_ev (hashN l v) (hashN z v) (by rw [hashN_len]; omega) (by rw [hashN_len]; omega) (hashN_size l v) (hashN_size z v)
    have heq : l.take v = z.take v → headN l v = headN z v := fun h => by
      rw [← headN_take l (Nat.le_refl v), ← headN_take z (Nat.le_refl v), h]
    have hne : l.take v ≠ z.take v → headN l v = headN z v → collF (hashN l v) (hashN z v) = true := fun h1 h2 =>
      Decidable.byContradiction fun h3 => h1 (heads (by omega) (by omega) (validT_nb ht) (validT_nb hz) h2 fun h4 => h3 (collF_iff.2 h4))
    have hs1 := headN_size l v
    generalize headN l v = A at *
    generalize headN z v = C at *
    generalize hashN l v = A1 at *
    generalize hashN z v = C1 at *
    simp -implicitDefEqProofs (disch := omega) only [go_sem, ↓reduceIte, reduceEqDiff, reduceMul, reduceAdd, reduceDiv, Nat.reduceBEq, reduceLeDiff, reduceToNat, reduceNe, reduceEq, reduceLT, reduceLE, Int.reduceBEq, Int.reduceBNe, hz, e3, e9, e32, e33, e34, s32, hlen]
    refine callC_at cp ?_
    simp -implicitDefEqProofs (disch := omega) only [go_sem, ↓reduceIte, reduceEqDiff, reduceMul, reduceAdd, reduceDiv, Nat.reduceBEq, reduceLeDiff, reduceToNat, reduceNe, reduceEq, reduceLT, reduceLE, Int.reduceBEq, Int.reduceBNe, e3, e9, e32, e33, e34, s32, hlen]
    refine callC_at ch1 ?_
    simp -implicitDefEqProofs (disch := omega) only [go_sem, ↓reduceIte, reduceEqDiff, reduceMul, reduceAdd, reduceDiv, Nat.reduceBEq, reduceLeDiff, reduceToNat, reduceNe, reduceEq, reduceLT, reduceLE, Int.reduceBEq, Int.reduceBNe, e3, e9, e32, e33, e34, s32, hlen]
    refine callC_at ch2 ?_
    simp -implicitDefEqProofs (disch := omega) only [go_sem, ↓reduceIte, reduceEqDiff, reduceMul, reduceAdd, reduceDiv, Nat.reduceBEq, reduceLeDiff, reduceToNat, reduceNe, reduceEq, reduceLT, reduceLE, Int.reduceBEq, Int.reduceBNe, e3, e9, e32, e33, e34, s32, hlen, hs1]
    refine branch_r (fun h => h rfl) ?_
    simp -implicitDefEqProofs (disch := omega) only [go_sem, ↓reduceIte, reduceEqDiff, reduceMul, reduceAdd, reduceDiv, Nat.reduceBEq, reduceLeDiff, reduceToNat, reduceNe, reduceEq, reduceLT, reduceLE, Int.reduceBEq, Int.reduceBNe, e3, e9, e32, e33, e34, s32, hlen, hs1]
    rw [Nat.sub_zero]
    refine callC_at csm ?_
    by_cases hc2 : l.take v = z.take v
    · have hAC := heq hc2
      subst hAC
      rw [decide_eq_true hc2]
      simp -implicitDefEqProofs (disch := omega) only [go_sem, ↓reduceIte, reduceEqDiff, reduceMul, reduceAdd, reduceDiv, Nat.reduceBEq, reduceLeDiff, reduceToNat, reduceNe, reduceEq, reduceLT, reduceLE, Int.reduceBEq, Int.reduceBNe, e3, e9, e32, e33, e34, s32, hlen, str_beq, decide_true, not_true_eq_false, not_false_eq_true]
      refine againQ_mk (2 - (j + 1)) (by omega) ⟨j + 1, by omega, ?_⟩
      simp -implicitDefEqProofs (disch := omega) only [go_sem, ↓reduceIte, reduceEqDiff, reduceMul, reduceAdd, reduceDiv, Nat.reduceBEq, reduceLeDiff, reduceToNat, reduceNe, reduceEq, reduceLT, reduceLE, Int.reduceBEq, Int.reduceBNe, e3, e9, e32, e33, e34, s32, hlen]
      rfl
    · have hcl := hne hc2
      rw [decide_eq_false hc2]
      simp -implicitDefEqProofs (disch := omega) only [go_sem, ↓reduceIte, reduceEqDiff, reduceMul, reduceAdd, reduceDiv, Nat.reduceBEq, reduceLeDiff, reduceToNat, reduceNe, reduceEq, reduceLT, reduceLE, Int.reduceBEq, Int.reduceBNe, e3, e9, e32, e33, e34, s32, hlen, str_beq]
      refine branch_mk (fun hac => ?_) (fun hac => ?_)
      · have hcl := hcl hac
        simp -implicitDefEqProofs (disch := omega) only [go_sem, ↓reduceIte, reduceEqDiff, reduceMul, reduceAdd, reduceDiv, Nat.reduceBEq, reduceLeDiff, reduceToNat, reduceNe, reduceEq, reduceLT, reduceLE, Int.reduceBEq, Int.reduceBNe, e3, e9, e32, e33, e34, s32, hlen]
        refine callC_at cx1 ?_
        simp -implicitDefEqProofs (disch := omega) only [go_sem, ↓reduceIte, reduceEqDiff, reduceMul, reduceAdd, reduceDiv, Nat.reduceBEq, reduceLeDiff, reduceToNat, reduceNe, reduceEq, reduceLT, reduceLE, Int.reduceBEq, Int.reduceBNe, e3, e9, e32, e33, e34, s32, hlen]
        refine callC_at cx2 ?_
        simp -implicitDefEqProofs (disch := omega) only [go_sem, ↓reduceIte, reduceEqDiff, reduceMul, reduceAdd, reduceDiv, Nat.reduceBEq, reduceLeDiff, reduceToNat, reduceNe, reduceEq, reduceLT, reduceLE, Int.reduceBEq, Int.reduceBNe, e3, e9, e32, e33, e34, s32, hlen]
        rw [hcl] at ccol
        refine callC_at ccol ?_
        simp -implicitDefEqProofs (disch := omega) only [go_sem, ↓reduceIte, reduceEqDiff, reduceMul, reduceAdd, reduceDiv, Nat.reduceBEq, reduceLeDiff, reduceToNat, reduceNe, reduceEq, reduceLT, reduceLE, Int.reduceBEq, Int.reduceBNe, e3, e9, e32, e33, e34, s32, hlen]
        refine againQ_mk (2 - (j + 1)) (by omega) ⟨j + 1, by omega, ?_⟩
        simp -implicitDefEqProofs (disch := omega) only [go_sem, ↓reduceIte, reduceEqDiff, reduceMul, reduceAdd, reduceDiv, Nat.reduceBEq, reduceLeDiff, reduceToNat, reduceNe, reduceEq, reduceLT, reduceLE, Int.reduceBEq, Int.reduceBNe, e3, e9, e32, e33, e34, s32, hlen]
        rfl
      · simp -implicitDefEqProofs (disch := omega) only [go_sem, ↓reduceIte, reduceEqDiff, reduceMul, reduceAdd, reduceDiv, Nat.reduceBEq, reduceLeDiff, reduceToNat, reduceNe, reduceEq, reduceLT, reduceLE, Int.reduceBEq, Int.reduceBNe, e3, e9, e32, e33, e34, s32, hlen]
        refine againQ_mk (2 - (j + 1)) (by omega) ⟨j + 1, by omega, ?_⟩
        simp -implicitDefEqProofs (disch := omega) only [go_sem, ↓reduceIte, reduceEqDiff, reduceMul, reduceAdd, reduceDiv, Nat.reduceBEq, reduceLeDiff, reduceToNat, reduceNe, reduceEq, reduceLT, reduceLE, Int.reduceBEq, Int.reduceBNe, e3, e9, e32, e33, e34, s32, hlen]
        rfl
  · obtain rfl : j = 2 := by omega
    simp -implicitDefEqProofs (disch := omega) only [go_sem, ↓reduceIte, reduceEqDiff, reduceMul, reduceAdd, reduceDiv, Nat.reduceBEq, reduceLeDiff, reduceToNat, reduceNe, reduceEq, reduceLT, reduceLE, Int.reduceBEq, Int.reduceBNe, Tryz.results3]
end Go.Proofs.YthkihocapdfonaaGreatDoor
set_option maxRecDepth 100000
namespace Go.Proofs.YthkihocapdfonaaGreatDoor
open Go.Vai Go Go.Proofs
open Nat (reduceEqDiff reduceMul reduceAdd reduceDiv reduceLeDiff)
open Int (reduceToNat reduceNe reduceEq reduceLT reduceLE)
theorem tableHeads_lifted (os : Os) (started : os.Started) (H : Type) (enc : TypeId × Value → H) :
    ReturnsInHanded {} Tryz.checked os 3 .any (fun w args => (Rows.tableHeadsSpec.pre enc Tryz.prog Tryz.f3 [] false w args ∧ laidMetH Tryz.prog laid3 w) ∧ sizedMet enc Tryz.prog Tryz.f3 (OpenSpec.ofChange Rows.tableHeadsSpec) false w args)
      (Rows.tableHeadsSpec.post enc Tryz.prog Tryz.f3 false true false false) :=
  liftedG (C := Tryz.checked) (tb := 4) (ps := [OQ, OQ, OT, OI]) (X := fun w _ => laidMetH Tryz.prog laid3 w) (fun _ _ _ hh h => h.of_heap hh) own3 started (by kernel_rfl) Tryz.func3
    (ChangeSpec.witness_shaped (enc := enc) (C := Tryz.checked) (os := os) (X := fun w _ => laidMetH Tryz.prog laid3 w) false (World.doorLaid Tryz.prog 14 os) #[.slice none 0 0, .slice none 0 0, .agg #[.int .i64 0, .int .i64 0, .int .i64 0], .int .i64 0] 8 rfl (World.shaped_of_RefB (by kernel_rfl) (by kernel_rfl)) (by kernel_rfl) (by kernel_rfl) (by kernel_rfl) (door_met os _))
    laidOut3 (by kernel_rfl) (by kernel_rfl) (by kernel_rfl) rfl (len_4 fun _ _ _ _ => rfl)
    (fun w => ⟨o_fours, o_fours, o_three, o_int (by kernel_rfl), trivial⟩)
    (allP_4 fun a0 a1 a2 a3 h0 h1 h2 h3 => by
      obtain ⟨x0, hx0, hr0, rfl⟩ := h0
      obtain ⟨x1, hx1, hr1, rfl⟩ := h1
      obtain ⟨x2, y2, z2, hx2, hy2, hz2, rfl⟩ := h2
      obtain ⟨x3, hx3, rfl⟩ := h3
      exact heads_ev x0 x1 x2 y2 z2 x3 hx0 hr0 hx1 hr1 hx2 hy2 hz2 hx3)
    (fun _ _ h => gok h)
theorem tableHeads_row : Rows.TableHeadsSaid :=
  OpenClaim.holds_of_wide 3 Tryz.f3 rfl rfl rfl rfl rfl rfl rfl ⟨rfl, rfl, rfl, rfl, rfl⟩ rfl rfl rfl rfl rfl (by kernel_rfl) Tryz.func3 (by kernel_rfl)
    (of_decide_eq_true (by kernel_rfl)) (by unfold Func.isWrapper; first | (rw [if_pos (by decide +kernel)]; kernel_rfl) | (rw [if_neg (by decide +kernel)]; exact ⟨rfl, rfl⟩))
    (fun os started H enc _ => tableHeads_lifted os started H enc)
theorem tableHeads_holds : Rows.TableHeadsCardSaid :=
  Claim7.holds_tied_plain_at .later [] [.data] true (true, "4c8f8c949bc4f2625d4fe47a2fd5753e9a349a40582759a62b7e2e7c484e30b1") false
    tableHeads_row (fun _ h => by cases h) (by kernel_rfl) (fun _ h => by cases h) tableHeads_row_tie rfl ⟨rfl, rfl⟩ (by kernel_rfl) rfl
    (fun f fn hf hfn => by
      obtain rfl : f = 3 := Option.some.inj ((show Tryz.prog.funcNamed "dialtone/dialtonelaw23.TableHeads" = some 3 by kernel_rfl).symm.trans hf) |>.symm
      obtain rfl : fn = Tryz.f3 := (Option.some.inj (Tryz.func3.symm.trans hfn)).symm
      exact ⟨by kernel_rfl, fun j t ht => by
          rw [Tryz.params3] at ht
          rcases j with _ | j
          · obtain rfl : t = 22 := by simpa using ht.symm
            exact (show Tryz.prog.wantsStandIn 22 = false by kernel_rfl)
          rcases j with _ | j
          · obtain rfl : t = 22 := by simpa using ht.symm
            exact (show Tryz.prog.wantsStandIn 22 = false by kernel_rfl)
          rcases j with _ | j
          · obtain rfl : t = 23 := by simpa using ht.symm
            exact (show Tryz.prog.wantsStandIn 23 = false by kernel_rfl)
          rcases j with _ | j
          · obtain rfl : t = 3 := by simpa using ht.symm
            exact (show Tryz.prog.wantsStandIn 3 = false by kernel_rfl)
          simp at ht⟩)
    (by kernel_rfl)
#print axioms tableHeads_holds
end Go.Proofs.YthkihocapdfonaaGreatDoor

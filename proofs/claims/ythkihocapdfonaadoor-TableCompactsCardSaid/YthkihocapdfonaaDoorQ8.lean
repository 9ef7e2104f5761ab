/- Chapter 23, TableCompacts: Compact is a valid table whose last map is that of the table; Compact of it is the same; it has as many updates as the map has blocks. Conditions: the package variable digest.round reads as the program's text lays it (tied). -/
import Derived.Test.YthkihocapdfonaaDoorKH
set_option linter.unusedVariables false
set_option linter.unusedSimpArgs false
set_option maxRecDepth 100000
namespace Go.Proofs.YthkihocapdfonaaDoor
open Go.Vai Go Go.Proofs
open Nat (reduceEqDiff reduceMul reduceAdd reduceDiv reduceLeDiff)
open Int (reduceToNat reduceNe reduceEq reduceLT reduceLE)
theorem compT_spec {l : List Up} (ht : validT l = true) : validT (compT l) = true ∧ (compT l).length = (mapV l l.length).length ∧ mapV (compT l) (compT l).length = mapV l l.length ∧ compT (compT l) = compT l := by
  have hok := (mapV_spec ht (v := l.length) (Nat.le_refl _)).1
  have ha : 0 ≤ (gd l (l.length - 1)).a ∧ (gd l (l.length - 1)).a ≤ 10000000 := by
    by_cases h0 : l.length = 0
    · obtain rfl : l = [] := List.eq_nil_of_length_eq_zero h0
      decide
    · obtain ⟨h1, h2, _⟩ := (timesB_mono (validT_iff.1 ht).2.1).1 (l.length - 1) (by omega)
      exact ⟨h1, h2⟩
  have hlen : (compT l).length = (mapV l l.length).length := by unfold compT compF; simp
  obtain ⟨h1, h2⟩ := comp_spec hok ha.1 ha.2
  have h2' : mapV (compT l) (compT l).length = mapV l l.length := by rw [hlen]; exact h2
  refine ⟨h1, hlen, h2', ?_⟩
  show compF (mapV (compT l) (compT l).length) (gd (compT l) ((compT l).length - 1)).a = _
  rw [h2']
  show _ = compF (mapV l l.length) (gd l (l.length - 1)).a
  by_cases h0 : (mapV l l.length).length = 0
  · rw [List.eq_nil_of_length_eq_zero h0]; rfl
  · congr 1
    have hi : (compT l).length - 1 < (compT l).length := by omega
    rw [gd_getB _ _ hi]
    have : ∀ u ∈ compT l, u.a = (gd l (l.length - 1)).a := fun u hu => by
      unfold compT compF at hu
      obtain ⟨b, _, rfl⟩ := List.mem_map.1 hu
      rfl
    exact this _ (List.getElem_mem hi)
set_option maxHeartbeats 2000000 in
theorem compacts_ev (x : List Q4) (hn : x.length ≤ 9223372036854775807) (hx : ∀ q ∈ x, q.ok) : Ev Tryd.prog 10 [QL x] (B true) := by
  have c0 := made_ev x hx hn
  have ht := madeF_valid x
  generalize madeF x = l at *
  obtain ⟨s1, s2, s3, s4⟩ := compT_spec ht
  have c1 := compact_at ht
  have c2 := map_at ht (v := l.length) (Nat.le_refl _)
  have c3 := valid_at s1
  have c4 := map_at s1 (v := (compT l).length) (Nat.le_refl _)
  have c5 := compact_at s1
  rw [s3] at c4
  rw [s4] at c5
  have hok := (validB_iff.1 (map_ok ht (v := l.length) (Nat.le_refl _))).1
  generalize mapV l l.length = m at *
  generalize compT l = c at *
  refine ev_of Tryd.func10 rfl (by kernel_rfl) mo (Nat.le_of_ble_eq_true rfl) ?_
  simp -implicitDefEqProofs (disch := omega) only [go_sem, ↓reduceIte, reduceEqDiff, reduceMul, reduceAdd, reduceDiv, Nat.reduceBEq, reduceLeDiff, reduceToNat, reduceNe, reduceEq, reduceLT, reduceLE, Int.reduceBEq, Int.reduceBNe, Tryd.ntmps10]
  refine callC_at sane_ev ?_
  simp -implicitDefEqProofs (disch := omega) only [go_sem, ↓reduceIte, reduceEqDiff, reduceMul, reduceAdd, reduceDiv, Nat.reduceBEq, reduceLeDiff, reduceToNat, reduceNe, reduceEq, reduceLT, reduceLE, Int.reduceBEq, Int.reduceBNe]
  refine callC_at c0 ?_
  simp -implicitDefEqProofs (disch := omega) only [go_sem, ↓reduceIte, reduceEqDiff, reduceMul, reduceAdd, reduceDiv, Nat.reduceBEq, reduceLeDiff, reduceToNat, reduceNe, reduceEq, reduceLT, reduceLE, Int.reduceBEq, Int.reduceBNe]
  refine callC_at c1 ?_
  simp -implicitDefEqProofs (disch := omega) only [go_sem, ↓reduceIte, reduceEqDiff, reduceMul, reduceAdd, reduceDiv, Nat.reduceBEq, reduceLeDiff, reduceToNat, reduceNe, reduceEq, reduceLT, reduceLE, Int.reduceBEq, Int.reduceBNe]
  refine callC_at c2 ?_
  simp -implicitDefEqProofs (disch := omega) only [go_sem, ↓reduceIte, reduceEqDiff, reduceMul, reduceAdd, reduceDiv, Nat.reduceBEq, reduceLeDiff, reduceToNat, reduceNe, reduceEq, reduceLT, reduceLE, Int.reduceBEq, Int.reduceBNe]
  refine callC_at c3 ?_
  simp -implicitDefEqProofs (disch := omega) only [go_sem, ↓reduceIte, reduceEqDiff, reduceMul, reduceAdd, reduceDiv, Nat.reduceBEq, reduceLeDiff, reduceToNat, reduceNe, reduceEq, reduceLT, reduceLE, Int.reduceBEq, Int.reduceBNe]
  refine branch_r (by omega) ?_
  simp -implicitDefEqProofs (disch := omega) only [go_sem, ↓reduceIte, reduceEqDiff, reduceMul, reduceAdd, reduceDiv, Nat.reduceBEq, reduceLeDiff, reduceToNat, reduceNe, reduceEq, reduceLT, reduceLE, Int.reduceBEq, Int.reduceBNe]
  refine callC_at c4 ?_
  simp -implicitDefEqProofs (disch := omega) only [go_sem, ↓reduceIte, reduceEqDiff, reduceMul, reduceAdd, reduceDiv, Nat.reduceBEq, reduceLeDiff, reduceToNat, reduceNe, reduceEq, reduceLT, reduceLE, Int.reduceBEq, Int.reduceBNe]
  refine callC_at c5 ?_
  simp -implicitDefEqProofs (disch := omega) only [go_sem, ↓reduceIte, reduceEqDiff, reduceMul, reduceAdd, reduceDiv, Nat.reduceBEq, reduceLeDiff, reduceToNat, reduceNe, reduceEq, reduceLT, reduceLE, Int.reduceBEq, Int.reduceBNe]
  refine callC_at (sameB_ev m m (by omega) (by omega)) ?_
  simp -implicitDefEqProofs (disch := omega) only [go_sem, ↓reduceIte, reduceEqDiff, reduceMul, reduceAdd, reduceDiv, Nat.reduceBEq, reduceLeDiff, reduceToNat, reduceNe, reduceEq, reduceLT, reduceLE, Int.reduceBEq, Int.reduceBNe]
  refine callC_at (sameU_ev c c (by omega) (by omega)) ?_
  simp -implicitDefEqProofs (disch := omega) only [go_sem, ↓reduceIte, reduceEqDiff, reduceMul, reduceAdd, reduceDiv, Nat.reduceBEq, reduceLeDiff, reduceToNat, reduceNe, reduceEq, reduceLT, reduceLE, Int.reduceBEq, Int.reduceBNe, Tryd.results10]
end Go.Proofs.YthkihocapdfonaaDoor
set_option maxRecDepth 100000
namespace Go.Proofs.YthkihocapdfonaaDoor
open Go.Vai Go Go.Proofs
open Nat (reduceEqDiff reduceMul reduceAdd reduceDiv reduceLeDiff)
open Int (reduceToNat reduceNe reduceEq reduceLT reduceLE)
theorem tableCompacts_lifted (os : Os) (started : os.Started) (H : Type) (enc : TypeId × Value → H) :
    ReturnsInHanded {} Tryd.checked os 10 .any (fun w args => (Rows.tableCompactsSpec.pre enc Tryd.prog Tryd.f10 [] false w args ∧ laidMetH Tryd.prog laid3 w) ∧ sizedMet enc Tryd.prog Tryd.f10 (OpenSpec.ofChange Rows.tableCompactsSpec) false w args)
      (Rows.tableCompactsSpec.post enc Tryd.prog Tryd.f10 false true false false) :=
  liftedG (C := Tryd.checked) (tb := 4) (ps := [OQ]) (X := fun w _ => laidMetH Tryd.prog laid3 w) (fun _ _ _ hh h => h.of_heap hh) own3 started (by kernel_rfl) Tryd.func10
    (ChangeSpec.witness_shaped (enc := enc) (C := Tryd.checked) (os := os) (X := fun w _ => laidMetH Tryd.prog laid3 w) false (World.doorLaid Tryd.prog 14 os) #[.slice none 0 0] 8 rfl (World.shaped_of_RefB (by kernel_rfl) (by kernel_rfl)) (by kernel_rfl) (by kernel_rfl) (by kernel_rfl) (door_met os _))
    laidOut3 (by kernel_rfl) (by kernel_rfl) (by kernel_rfl) rfl (len_1 fun _ => rfl)
    (fun w => ⟨o_fours, trivial⟩)
    (allP_1 fun a0 h0 => by
      obtain ⟨x0, hx0, hr0, rfl⟩ := h0
      exact compacts_ev x0 hx0 hr0)
    (fun _ _ h => gok h)
theorem tableCompacts_row : Rows.TableCompactsSaid :=
  OpenClaim.holds_of_wide 10 Tryd.f10 rfl rfl rfl rfl rfl rfl rfl ⟨rfl, rfl, rfl, rfl, rfl⟩ rfl rfl rfl rfl rfl (by kernel_rfl) Tryd.func10 (by kernel_rfl)
    (of_decide_eq_true (by kernel_rfl)) (by unfold Func.isWrapper; first | (rw [if_pos (by decide +kernel)]; kernel_rfl) | (rw [if_neg (by decide +kernel)]; exact ⟨rfl, rfl⟩))
    (fun os started H enc _ => tableCompacts_lifted os started H enc)
theorem tableCompacts_holds : Rows.TableCompactsCardSaid :=
  Claim7.holds_tied_plain_at .later [] [.data] true (true, "a7fbe88a3d6af073a3870589c160493439a8c551a37f68fc5a20ba86f7e405cd") false
    tableCompacts_row (fun _ h => by cases h) (by kernel_rfl) (fun _ h => by cases h) tableCompacts_row_tie rfl ⟨rfl, rfl⟩ (by kernel_rfl) rfl
    (fun f fn hf hfn => by
      obtain rfl : f = 10 := Option.some.inj ((show Tryd.prog.funcNamed "dialtone/dialtonelaw23.TableCompacts" = some 10 by kernel_rfl).symm.trans hf) |>.symm
      obtain rfl : fn = Tryd.f10 := (Option.some.inj (Tryd.func10.symm.trans hfn)).symm
      exact ⟨by kernel_rfl, fun j t ht => by
          rw [Tryd.params10] at ht
          rcases j with _ | j
          · obtain rfl : t = 22 := by simpa using ht.symm
            exact (show Tryd.prog.wantsStandIn 22 = false by kernel_rfl)
          simp at ht⟩)
    (by kernel_rfl)
#print axioms tableCompacts_holds
end Go.Proofs.YthkihocapdfonaaDoor

/- Chapter 23, TableLast: in a version a number is held by the carrier of the last one of the first updates whose range has it; whoever holds it holds it in all versions since the least one, and somebody else does in the version before that. Conditions: the package variable digest.round reads as the program's text lays it (tied). -/
import Derived.Test.YthkihocapdfonaaDoorKH
set_option linter.unusedVariables false
set_option linter.unusedSimpArgs false
set_option maxRecDepth 100000
namespace Go.Proofs.YthkihocapdfonaaDoor
open Go.Vai Go Go.Proofs
open Nat (reduceEqDiff reduceMul reduceAdd reduceDiv reduceLeDiff)
open Int (reduceToNat reduceNe reduceEq reduceLT reduceLE)
set_option maxHeartbeats 2000000 in
theorem last_ev (x : List Q4) (version which number : Int) (hn : x.length ≤ 9223372036854775807) (hx : ∀ q ∈ x, q.ok) (hv : R64 version) (hw : R64 which) (hnn : R64 number) : Ev Tryd.prog 4 [QL x, I version, I which, I number] (B true) := by
  have c0 := made_ev x hx hn
  have ht := madeF_valid x
  generalize madeF x = l at *
  have h40 := len40 ht
  obtain ⟨v, hvl, _, cp⟩ := pickV l version h40 hv
  have cn := near_ev l which number (by omega) (validT_nb ht) hw hnn
  have hin := nearF_in l which number
  generalize nearF l which number = n at *
  refine ev_of Tryd.func4 rfl (by kernel_rfl) mo (Nat.le_of_ble_eq_true rfl) ?_
  simp -implicitDefEqProofs (disch := omega) only [go_sem, ↓reduceIte, reduceEqDiff, reduceMul, reduceAdd, reduceDiv, Nat.reduceBEq, reduceLeDiff, reduceToNat, reduceNe, reduceEq, reduceLT, reduceLE, Int.reduceBEq, Int.reduceBNe, Tryd.ntmps4]
  refine callC_at sane_ev ?_
  simp -implicitDefEqProofs (disch := omega) only [go_sem, ↓reduceIte, reduceEqDiff, reduceMul, reduceAdd, reduceDiv, Nat.reduceBEq, reduceLeDiff, reduceToNat, reduceNe, reduceEq, reduceLT, reduceLE, Int.reduceBEq, Int.reduceBNe]
  refine callC_at c0 ?_
  simp -implicitDefEqProofs (disch := omega) only [go_sem, ↓reduceIte, reduceEqDiff, reduceMul, reduceAdd, reduceDiv, Nat.reduceBEq, reduceLeDiff, reduceToNat, reduceNe, reduceEq, reduceLT, reduceLE, Int.reduceBEq, Int.reduceBNe]
  refine callC_at cp ?_
  simp -implicitDefEqProofs (disch := omega) only [go_sem, ↓reduceIte, reduceEqDiff, reduceMul, reduceAdd, reduceDiv, Nat.reduceBEq, reduceLeDiff, reduceToNat, reduceNe, reduceEq, reduceLT, reduceLE, Int.reduceBEq, Int.reduceBNe]
  refine callC_at cn ?_
  simp -implicitDefEqProofs (disch := omega) only [go_sem, ↓reduceIte, reduceEqDiff, reduceMul, reduceAdd, reduceDiv, Nat.reduceBEq, reduceLeDiff, reduceToNat, reduceNe, reduceEq, reduceLT, reduceLE, Int.reduceBEq, Int.reduceBNe]
  refine loopC_mk (fun k E σ => ∃ i : Nat, i + k = v ∧ E 9 = UPS l ∧ E 10 = I v ∧ E 11 = I n ∧ E 12 = I (heldV l n i) ∧ E 13 = I i) v ⟨0, by omega, ?_⟩ ?_
  · simp -implicitDefEqProofs (disch := omega) only [go_sem, ↓reduceIte, reduceEqDiff, reduceMul, reduceAdd, reduceDiv, Nat.reduceBEq, reduceLeDiff, reduceToNat, reduceNe, reduceEq, reduceLT, reduceLE, Int.reduceBEq, Int.reduceBNe]
    exact ⟨rfl, rfl⟩
  rintro k E σ ⟨i, hk, e9, e10, e11, e12, e13⟩
  simp -implicitDefEqProofs (disch := omega) only [go_sem, ↓reduceIte, reduceEqDiff, reduceMul, reduceAdd, reduceDiv, Nat.reduceBEq, reduceLeDiff, reduceToNat, reduceNe, reduceEq, reduceLT, reduceLE, Int.reduceBEq, Int.reduceBNe, e9, e10, e11, e12, e13]
  refine branch_mk (fun hc => ?_) (fun hc => ?_)
  · have hs := heldV_succ l n (v := i) (by omega)
    have hhas : (gd l i).has n ↔ (gd l i).f ≤ n ∧ n < (gd l i).t := Iff.rfl
    simp -implicitDefEqProofs (disch := omega) only [go_sem, ↓reduceIte, reduceEqDiff, reduceMul, reduceAdd, reduceDiv, Nat.reduceBEq, reduceLeDiff, reduceToNat, reduceNe, reduceEq, reduceLT, reduceLE, Int.reduceBEq, Int.reduceBNe, e9, e10, e11, e12, e13]
    refine branch_mk (fun h1 => ?_) (fun h1 => ?_)
    · simp -implicitDefEqProofs (disch := omega) only [go_sem, ↓reduceIte, reduceEqDiff, reduceMul, reduceAdd, reduceDiv, Nat.reduceBEq, reduceLeDiff, reduceToNat, reduceNe, reduceEq, reduceLT, reduceLE, Int.reduceBEq, Int.reduceBNe, e9, e10, e11, e12, e13]
      refine branch_mk (fun h2 => ?_) (fun h2 => ?_)
      · rw [if_pos (hhas.2 ⟨h1, h2⟩)] at hs
        simp -implicitDefEqProofs (disch := omega) only [go_sem, ↓reduceIte, reduceEqDiff, reduceMul, reduceAdd, reduceDiv, Nat.reduceBEq, reduceLeDiff, reduceToNat, reduceNe, reduceEq, reduceLT, reduceLE, Int.reduceBEq, Int.reduceBNe, e9, e10, e11, e12, e13]
        refine againQ_mk (v - (i + 1)) (by omega) ⟨i + 1, by omega, ?_⟩
        simp -implicitDefEqProofs (disch := omega) only [go_sem, ↓reduceIte, reduceEqDiff, reduceMul, reduceAdd, reduceDiv, Nat.reduceBEq, reduceLeDiff, reduceToNat, reduceNe, reduceEq, reduceLT, reduceLE, Int.reduceBEq, Int.reduceBNe, e9, e10, e11, e12, e13, hs]
        rfl
      · rw [if_neg (fun h => h2 (hhas.1 h).2)] at hs
        simp -implicitDefEqProofs (disch := omega) only [go_sem, ↓reduceIte, reduceEqDiff, reduceMul, reduceAdd, reduceDiv, Nat.reduceBEq, reduceLeDiff, reduceToNat, reduceNe, reduceEq, reduceLT, reduceLE, Int.reduceBEq, Int.reduceBNe, e9, e10, e11, e12, e13]
        refine againQ_mk (v - (i + 1)) (by omega) ⟨i + 1, by omega, ?_⟩
        simp -implicitDefEqProofs (disch := omega) only [go_sem, ↓reduceIte, reduceEqDiff, reduceMul, reduceAdd, reduceDiv, Nat.reduceBEq, reduceLeDiff, reduceToNat, reduceNe, reduceEq, reduceLT, reduceLE, Int.reduceBEq, Int.reduceBNe, e9, e10, e11, e12, e13, hs]
        rfl
    · rw [if_neg (fun h => h1 (hhas.1 h).1)] at hs
      simp -implicitDefEqProofs (disch := omega) only [go_sem, ↓reduceIte, reduceEqDiff, reduceMul, reduceAdd, reduceDiv, Nat.reduceBEq, reduceLeDiff, reduceToNat, reduceNe, reduceEq, reduceLT, reduceLE, Int.reduceBEq, Int.reduceBNe, e9, e10, e11, e12, e13]
      refine againQ_mk (v - (i + 1)) (by omega) ⟨i + 1, by omega, ?_⟩
      simp -implicitDefEqProofs (disch := omega) only [go_sem, ↓reduceIte, reduceEqDiff, reduceMul, reduceAdd, reduceDiv, Nat.reduceBEq, reduceLeDiff, reduceToNat, reduceNe, reduceEq, reduceLT, reduceLE, Int.reduceBEq, Int.reduceBNe, e9, e10, e11, e12, e13, hs]
      rfl
  · obtain rfl : i = v := by omega
    have hok := map_ok ht (v := i) hvl
    have cf := find_ev (mapV l i) n hok
    rw [heldV_map ht hvl] at cf
    have ch := held_at ht hvl hin
    have cm := map_at ht (v := i) hvl
    have cs := since_at ht hvl hin
    have hw2 := heldV_in ht n hvl
    have hcl := heldV_in ht n hvl
    obtain ⟨s1, s2, s3⟩ := sinF_spec l n i
    obtain ⟨s, hs⟩ : ∃ s, sinF l n i = s := ⟨_, rfl⟩
    obtain ⟨w, hw⟩ : ∃ w, heldV l n i = w := ⟨_, rfl⟩
    rw [hs] at cs s1 s2 s3
    rw [hw] at cf ch hw2 s2 s3 e12
    generalize mapV l i = m at *
    simp -implicitDefEqProofs (disch := omega) only [go_sem, ↓reduceIte, reduceEqDiff, reduceMul, reduceAdd, reduceDiv, Nat.reduceBEq, reduceLeDiff, reduceToNat, reduceNe, reduceEq, reduceLT, reduceLE, Int.reduceBEq, Int.reduceBNe, e9, e10, e11, e12, e13]
    refine callC_at ch ?_
    simp -implicitDefEqProofs (disch := omega) only [go_sem, ↓reduceIte, reduceEqDiff, reduceMul, reduceAdd, reduceDiv, Nat.reduceBEq, reduceLeDiff, reduceToNat, reduceNe, reduceEq, reduceLT, reduceLE, Int.reduceBEq, Int.reduceBNe, e9, e10, e11, e12, e13]
    refine callC_at cm ?_
    simp -implicitDefEqProofs (disch := omega) only [go_sem, ↓reduceIte, reduceEqDiff, reduceMul, reduceAdd, reduceDiv, Nat.reduceBEq, reduceLeDiff, reduceToNat, reduceNe, reduceEq, reduceLT, reduceLE, Int.reduceBEq, Int.reduceBNe, e9, e10, e11, e12, e13]
    refine callC_at cf ?_
    simp -implicitDefEqProofs (disch := omega) only [go_sem, ↓reduceIte, reduceEqDiff, reduceMul, reduceAdd, reduceDiv, Nat.reduceBEq, reduceLeDiff, reduceToNat, reduceNe, reduceEq, reduceLT, reduceLE, Int.reduceBEq, Int.reduceBNe, e9, e10, e11, e12, e13]
    refine callC_at cs ?_
    simp -implicitDefEqProofs (disch := omega) only [go_sem, ↓reduceIte, reduceEqDiff, reduceMul, reduceAdd, reduceDiv, Nat.reduceBEq, reduceLeDiff, reduceToNat, reduceNe, reduceEq, reduceLT, reduceLE, Int.reduceBEq, Int.reduceBNe, e9, e10, e11, e12, e13]
    have hdd : (decide ¬w = -1) = decide (0 ≤ w) := by
      rcases hw2 with h | h
      · rw [h]; rfl
      · rw [decide_eq_true (by omega), decide_eq_true (by omega)]
    have hwm : (w = -1) = True ∨ (w = -1) = False := by
      by_cases h : w = -1
      · exact .inl (eq_true h)
      · exact .inr (eq_false h)
    refine branch_r (by simp [hdd]) ?_
    have hsi : ¬ (s : Int) < 0 := by omega
    have hsi2 : ¬ (s : Int) > i := by omega
    have hs1 : ¬ (s : Int) = 0 → (s : Int) - 1 = ((s - 1 : Nat) : Int) := fun h => by omega
    rcases hwm with hwm | hwm
    all_goals
      simp -implicitDefEqProofs (disch := omega) only [go_sem, ↓reduceIte, reduceEqDiff, reduceMul, reduceAdd, reduceDiv, Nat.reduceBEq, reduceLeDiff, reduceToNat, reduceNe, reduceEq, reduceLT, reduceLE, Int.reduceBEq, Int.reduceBNe, e9, e10, e11, e12, e13, hwm, not_true_eq_false, not_false_eq_true, decide_true, decide_false]
      try (refine branch_r (by omega) ?_)
      simp -implicitDefEqProofs (disch := omega) only [go_sem, ↓reduceIte, reduceEqDiff, reduceMul, reduceAdd, reduceDiv, Nat.reduceBEq, reduceLeDiff, reduceToNat, reduceNe, reduceEq, reduceLT, reduceLE, Int.reduceBEq, Int.reduceBNe, e9, e10, e11, e12, e13]
      refine branch_r (by omega) ?_
      simp -implicitDefEqProofs (disch := omega) only [go_sem, ↓reduceIte, reduceEqDiff, reduceMul, reduceAdd, reduceDiv, Nat.reduceBEq, reduceLeDiff, reduceToNat, reduceNe, reduceEq, reduceLT, reduceLE, Int.reduceBEq, Int.reduceBNe, e9, e10, e11, e12, e13]
      refine loopC_mk (fun k E σ => ∃ j : Nat, j + k = i + 1 ∧ s ≤ j ∧ E 9 = UPS l ∧ E 10 = I i ∧ E 11 = I n ∧ E 12 = I w ∧ E 20 = I s ∧ E 22 = I j) (i + 1 - s) ⟨s, by omega, by omega, ?_⟩ ?_
      · simp -implicitDefEqProofs (disch := omega) only [go_sem, ↓reduceIte, reduceEqDiff, reduceMul, reduceAdd, reduceDiv, Nat.reduceBEq, reduceLeDiff, reduceToNat, reduceNe, reduceEq, reduceLT, reduceLE, Int.reduceBEq, Int.reduceBNe, e9, e10, e11, e12, e13]
      clear e9 e10 e11 e12 e13 E σ k hk
      rintro k E σ ⟨j, hk, hsj, e9, e10, e11, e12, e20, e22⟩
      simp -implicitDefEqProofs (disch := omega) only [go_sem, ↓reduceIte, reduceEqDiff, reduceMul, reduceAdd, reduceDiv, Nat.reduceBEq, reduceLeDiff, reduceToNat, reduceNe, reduceEq, reduceLT, reduceLE, Int.reduceBEq, Int.reduceBNe, e9, e10, e11, e12, e20, e22]
      refine branch_mk (fun hc => ?_) (fun hc => ?_)
      · have chj := held_at ht (v := j) (by omega) hin
        rw [s2 j hsj (by omega)] at chj
        simp -implicitDefEqProofs (disch := omega) only [go_sem, ↓reduceIte, reduceEqDiff, reduceMul, reduceAdd, reduceDiv, Nat.reduceBEq, reduceLeDiff, reduceToNat, reduceNe, reduceEq, reduceLT, reduceLE, Int.reduceBEq, Int.reduceBNe, e9, e10, e11, e12, e20, e22]
        refine callC_at chj ?_
        simp -implicitDefEqProofs (disch := omega) only [go_sem, ↓reduceIte, reduceEqDiff, reduceMul, reduceAdd, reduceDiv, Nat.reduceBEq, reduceLeDiff, reduceToNat, reduceNe, reduceEq, reduceLT, reduceLE, Int.reduceBEq, Int.reduceBNe, e9, e10, e11, e12, e20, e22]
        refine againQ_mk (i + 1 - (j + 1)) (by omega) ⟨j + 1, by omega, by omega, ?_⟩
        simp -implicitDefEqProofs (disch := omega) only [go_sem, ↓reduceIte, reduceEqDiff, reduceMul, reduceAdd, reduceDiv, Nat.reduceBEq, reduceLeDiff, reduceToNat, reduceNe, reduceEq, reduceLT, reduceLE, Int.reduceBEq, Int.reduceBNe, e9, e10, e11, e12, e20, e22]
        rfl
      · simp -implicitDefEqProofs (disch := omega) only [go_sem, ↓reduceIte, reduceEqDiff, reduceMul, reduceAdd, reduceDiv, Nat.reduceBEq, reduceLeDiff, reduceToNat, reduceNe, reduceEq, reduceLT, reduceLE, Int.reduceBEq, Int.reduceBNe, e9, e10, e11, e12, e20, e22]
        refine branch_mk (fun h0 => ?_) (fun h0 => ?_)
        · simp -implicitDefEqProofs (disch := omega) only [go_sem, ↓reduceIte, reduceEqDiff, reduceMul, reduceAdd, reduceDiv, Nat.reduceBEq, reduceLeDiff, reduceToNat, reduceNe, reduceEq, reduceLT, reduceLE, Int.reduceBEq, Int.reduceBNe, Tryd.results4]
        · have chs := held_at ht (v := s - 1) (by omega) hin
          rw [← hs1 h0] at chs
          have hne : heldV l n (s - 1) ≠ w := by
            rcases s3 with h | h
            · omega
            · exact h
          generalize heldV l n (s - 1) = w' at *
          simp -implicitDefEqProofs (disch := omega) only [go_sem, ↓reduceIte, reduceEqDiff, reduceMul, reduceAdd, reduceDiv, Nat.reduceBEq, reduceLeDiff, reduceToNat, reduceNe, reduceEq, reduceLT, reduceLE, Int.reduceBEq, Int.reduceBNe, e9, e10, e11, e12, e20, e22]
          refine callC_at chs ?_
          simp -implicitDefEqProofs (disch := omega) only [go_sem, ↓reduceIte, reduceEqDiff, reduceMul, reduceAdd, reduceDiv, Nat.reduceBEq, reduceLeDiff, reduceToNat, reduceNe, reduceEq, reduceLT, reduceLE, Int.reduceBEq, Int.reduceBNe, e9, e10, e11, e12, e20, e22, hne, Tryd.results4]
          try simp [hne]
end Go.Proofs.YthkihocapdfonaaDoor
set_option maxRecDepth 100000
namespace Go.Proofs.YthkihocapdfonaaDoor
open Go.Vai Go Go.Proofs
open Nat (reduceEqDiff reduceMul reduceAdd reduceDiv reduceLeDiff)
open Int (reduceToNat reduceNe reduceEq reduceLT reduceLE)
theorem tableLast_lifted (os : Os) (started : os.Started) (H : Type) (enc : TypeId × Value → H) :
    ReturnsInHanded {} Tryd.checked os 4 .any (fun w args => (Rows.tableLastSpec.pre enc Tryd.prog Tryd.f4 [] false w args ∧ laidMetH Tryd.prog laid3 w) ∧ sizedMet enc Tryd.prog Tryd.f4 (OpenSpec.ofChange Rows.tableLastSpec) false w args)
      (Rows.tableLastSpec.post enc Tryd.prog Tryd.f4 false true false false) :=
  liftedG (C := Tryd.checked) (tb := 4) (ps := [OQ, OI, OI, OI]) (X := fun w _ => laidMetH Tryd.prog laid3 w) (fun _ _ _ hh h => h.of_heap hh) own3 started (by kernel_rfl) Tryd.func4
    (ChangeSpec.witness_shaped (enc := enc) (C := Tryd.checked) (os := os) (X := fun w _ => laidMetH Tryd.prog laid3 w) false (World.doorLaid Tryd.prog 14 os) #[.slice none 0 0, .int .i64 0, .int .i64 0, .int .i64 0] 8 rfl (World.shaped_of_RefB (by kernel_rfl) (by kernel_rfl)) (by kernel_rfl) (by kernel_rfl) (by kernel_rfl) (door_met os _))
    laidOut3 (by kernel_rfl) (by kernel_rfl) (by kernel_rfl) rfl (len_4 fun _ _ _ _ => rfl)
    (fun w => ⟨o_fours, o_int (by kernel_rfl), o_int (by kernel_rfl), o_int (by kernel_rfl), trivial⟩)
    (allP_4 fun a0 a1 a2 a3 h0 h1 h2 h3 => by
      obtain ⟨x0, hx0, hr0, rfl⟩ := h0
      obtain ⟨x1, hx1, rfl⟩ := h1
      obtain ⟨x2, hx2, rfl⟩ := h2
      obtain ⟨x3, hx3, rfl⟩ := h3
      exact last_ev x0 x1 x2 x3 hx0 hr0 hx1 hx2 hx3)
    (fun _ _ h => gok h)
theorem tableLast_row : Rows.TableLastSaid :=
  OpenClaim.holds_of_wide 4 Tryd.f4 rfl rfl rfl rfl rfl rfl rfl ⟨rfl, rfl, rfl, rfl, rfl⟩ rfl rfl rfl rfl rfl (by kernel_rfl) Tryd.func4 (by kernel_rfl)
    (of_decide_eq_true (by kernel_rfl)) (by unfold Func.isWrapper; first | (rw [if_pos (by decide +kernel)]; kernel_rfl) | (rw [if_neg (by decide +kernel)]; exact ⟨rfl, rfl⟩))
    (fun os started H enc _ => tableLast_lifted os started H enc)
theorem tableLast_holds : Rows.TableLastCardSaid :=
  Claim7.holds_tied_plain_at .later [] [.data] true (true, "a7fbe88a3d6af073a3870589c160493439a8c551a37f68fc5a20ba86f7e405cd") false
    tableLast_row (fun _ h => by cases h) (by kernel_rfl) (fun _ h => by cases h) tableLast_row_tie rfl ⟨rfl, rfl⟩ (by kernel_rfl) rfl
    (fun f fn hf hfn => by
      obtain rfl : f = 4 := Option.some.inj ((show Tryd.prog.funcNamed "dialtone/dialtonelaw23.TableLast" = some 4 by kernel_rfl).symm.trans hf) |>.symm
      obtain rfl : fn = Tryd.f4 := (Option.some.inj (Tryd.func4.symm.trans hfn)).symm
      exact ⟨by kernel_rfl, fun j t ht => by
          rw [Tryd.params4] at ht
          rcases j with _ | j
          · obtain rfl : t = 22 := by simpa using ht.symm
            exact (show Tryd.prog.wantsStandIn 22 = false by kernel_rfl)
          rcases j with _ | j
          · obtain rfl : t = 3 := by simpa using ht.symm
            exact (show Tryd.prog.wantsStandIn 3 = false by kernel_rfl)
          rcases j with _ | j
          · obtain rfl : t = 3 := by simpa using ht.symm
            exact (show Tryd.prog.wantsStandIn 3 = false by kernel_rfl)
          rcases j with _ | j
          · obtain rfl : t = 3 := by simpa using ht.symm
            exact (show Tryd.prog.wantsStandIn 3 = false by kernel_rfl)
          simp at ht⟩)
    (by kernel_rfl)
#print axioms tableLast_holds
end Go.Proofs.YthkihocapdfonaaDoor

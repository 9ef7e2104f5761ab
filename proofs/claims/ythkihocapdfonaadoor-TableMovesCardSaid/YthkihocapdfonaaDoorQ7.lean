/- Chapter 23, TableMoves: if all updates come later by the same number of seconds, versions at times are moved along, and maps stay. Conditions: the package variable digest.round reads as the program's text lays it (tied). -/
import Derived.Test.YthkihocapdfonaaDoorKH
set_option linter.unusedVariables false
set_option linter.unusedSimpArgs false
set_option maxRecDepth 100000
namespace Go.Proofs.YthkihocapdfonaaDoor
open Go.Vai Go Go.Proofs
open Nat (reduceEqDiff reduceMul reduceAdd reduceDiv reduceLeDiff)
open Int (reduceToNat reduceNe reduceEq reduceLT reduceLE)
def movU (d : Int) (u : Up) : Up := ⟨u.f, u.t, u.c, u.a + d⟩
theorem stepU_mov (m : List Bk) (u : Up) (d : Int) : stepU m (movU d u) = stepU m u := rfl
theorem mapsF_mov (d : Int) : ∀ (l : List Up) (m : List Bk), mapsF m (l.map (movU d)) = mapsF m l
  | [], _ => rfl
  | u :: l, m => by
    rw [List.map_cons, mapsF, mapsF, stepU_mov]
    cases stepU m u with
    | none => rfl
    | some m' => simp only; rw [mapsF_mov d l m']
theorem timesB_mov {d : Int} : ∀ (l : List Up) (e e' : Int), timesB e l = true → e' ≤ e + d → (∀ u ∈ l, u.a + d ≤ 10000000) → timesB e' (l.map (movU d)) = true
  | [], _, _, _, _, _ => rfl
  | u :: l, e, e', h, he, hm => by
    simp only [timesB, Bool.and_eq_true, decide_eq_true_eq] at h
    rw [List.map_cons]
    simp only [timesB, Bool.and_eq_true, decide_eq_true_eq]
    have hmu := hm u (by simp)
    refine ⟨⟨?_, ?_⟩, h.2.1, ?_⟩
    · show e' ≤ u.a + d; omega
    · show u.a + d ≤ 10000000; exact hmu
    · exact timesB_mov l u.a (u.a + d) h.2.2 (Int.le_refl _) fun v hv => hm v (by simp [hv])
theorem atF_mov (d : Int) : ∀ (l : List Up) (t : Int), atF (l.map (movU d)) (t + d) = atF l t
  | [], _ => rfl
  | u :: l, t => by
    rw [List.map_cons, atF, atF, atF_mov d l t]
    by_cases h : u.a ≤ t
    · rw [if_pos h, if_pos (show (movU d u).a ≤ t + d from by show u.a + d ≤ t + d; omega)]
    · rw [if_neg h, if_neg (show ¬ (movU d u).a ≤ t + d from by show ¬ u.a + d ≤ t + d; omega)]
set_option maxHeartbeats 2000000 in
theorem moves_ev (x : List Q4) (t later : Int) (hn : x.length ≤ 9223372036854775807) (hx : ∀ q ∈ x, q.ok) (h1 : R64 t) (h2 : R64 later) : Ev Tryd.prog 9 [QL x, I t, I later] (B true) := by
  have c0 := made_ev x hx hn
  have ht := madeF_valid x
  have hok := madeF_ok x
  generalize madeF x = l at *
  have h40 := len40 ht
  have p1 := pickF_in (c := t) (n := 60) (by omega)
  have p2 := pickF_in (c := later) (n := 1000000) (by omega)
  have c1 := pick_ev t 60 h1 (by omega)
  have c2 := pick_ev later 1000000 h2 (by omega)
  generalize pickF t 60 = a at *
  generalize pickF later 1000000 = d at *
  have hmv : validT (l.map (movU d)) = true := by
    obtain ⟨v1, v2, v3⟩ := validT_iff.1 ht
    refine validT_iff.2 ⟨by simpa using v1, timesB_mov l 0 0 v2 (by omega) fun u hu => by have := (hok u hu).2; omega, ?_⟩
    rw [mapsF_mov, v3]; simp
  have hat := atF_le l a
  have c3 := version_at ht (t := a) (by omega)
  have c4 := version_at hmv (t := a + d) (by omega)
  rw [atF_mov] at c4
  have c5 := map_at ht hat
  have c6 := map_at hmv (v := atF l a) (by simpa using hat)
  rw [show mapV (l.map (movU d)) (atF l a) = mapV l (atF l a) from by unfold mapV; rw [mapsF_mov]] at c6
  have hmo := (validB_iff.1 (map_ok ht hat)).1
  generalize atF l a = v at *
  generalize mapV l v = m at *
  refine ev_of Tryd.func9 rfl (by kernel_rfl) mo (Nat.le_of_ble_eq_true rfl) ?_
  simp -implicitDefEqProofs (disch := omega) only [go_sem, ↓reduceIte, reduceEqDiff, reduceMul, reduceAdd, reduceDiv, Nat.reduceBEq, reduceLeDiff, reduceToNat, reduceNe, reduceEq, reduceLT, reduceLE, Int.reduceBEq, Int.reduceBNe, Tryd.ntmps9]
  refine callC_at sane_ev ?_
  simp -implicitDefEqProofs (disch := omega) only [go_sem, ↓reduceIte, reduceEqDiff, reduceMul, reduceAdd, reduceDiv, Nat.reduceBEq, reduceLeDiff, reduceToNat, reduceNe, reduceEq, reduceLT, reduceLE, Int.reduceBEq, Int.reduceBNe]
  refine callC_at c0 ?_
  simp -implicitDefEqProofs (disch := omega) only [go_sem, ↓reduceIte, reduceEqDiff, reduceMul, reduceAdd, reduceDiv, Nat.reduceBEq, reduceLeDiff, reduceToNat, reduceNe, reduceEq, reduceLT, reduceLE, Int.reduceBEq, Int.reduceBNe]
  refine callC_at c1 ?_
  simp -implicitDefEqProofs (disch := omega) only [go_sem, ↓reduceIte, reduceEqDiff, reduceMul, reduceAdd, reduceDiv, Nat.reduceBEq, reduceLeDiff, reduceToNat, reduceNe, reduceEq, reduceLT, reduceLE, Int.reduceBEq, Int.reduceBNe]
  refine callC_at c2 ?_
  simp -implicitDefEqProofs (disch := omega) only [go_sem, ↓reduceIte, reduceEqDiff, reduceMul, reduceAdd, reduceDiv, Nat.reduceBEq, reduceLeDiff, reduceToNat, reduceNe, reduceEq, reduceLT, reduceLE, Int.reduceBEq, Int.reduceBNe]
  refine loopC_mk (fun n E σ => ∃ i : Nat, i + n = l.length ∧ E 7 = UPS l ∧ E 8 = I a ∧ E 9 = I d ∧ E 10 = .own 20971680 4 0 i ∧ E 11 = I i ∧ σ 20971680 = some ⟨35, 4, ((l.take i).map (movU d)).map UP⟩) l.length ⟨0, by omega, ?_⟩ ?_
  · simp -implicitDefEqProofs (disch := omega) only [go_sem, ↓reduceIte, reduceEqDiff, reduceMul, reduceAdd, reduceDiv, Nat.reduceBEq, reduceLeDiff, reduceToNat, reduceNe, reduceEq, reduceLT, reduceLE, Int.reduceBEq, Int.reduceBNe]
    rfl
  rintro n E σ ⟨i, hi, e7, e8, e9, e10, e11, m10⟩
  simp -implicitDefEqProofs (disch := omega) only [go_sem, ↓reduceIte, reduceEqDiff, reduceMul, reduceAdd, reduceDiv, Nat.reduceBEq, reduceLeDiff, reduceToNat, reduceNe, reduceEq, reduceLT, reduceLE, Int.reduceBEq, Int.reduceBNe, e7, e8, e9, e10, e11, m10]
  refine branch_mk (fun hc => ?_) (fun hc => ?_)
  · have hu := hok _ (gd_mem l i (by omega))
    have hil : ((l.take i).map (movU d)).length = i := by simp; omega
    have hs : (l.take i).map (movU d) ++ [⟨(gd l i).f, (gd l i).t, (gd l i).c, (gd l i).a + d⟩] = (l.take (i + 1)).map (movU d) := by
      rw [take_succ' l i (by omega), List.map_append]; rfl
    generalize (l.take i).map (movU d) = o at *
    simp -implicitDefEqProofs (disch := omega) only [go_sem, ↓reduceIte, reduceEqDiff, reduceMul, reduceAdd, reduceDiv, Nat.reduceBEq, reduceLeDiff, reduceToNat, reduceNe, reduceEq, reduceLT, reduceLE, Int.reduceBEq, Int.reduceBNe, e7, e8, e9, e10, e11, m10, and_self]
    refine againQ_mk (l.length - (i + 1)) (by omega) ⟨i + 1, by omega, ?_⟩
    simp -implicitDefEqProofs (disch := omega) only [go_sem, ↓reduceIte, reduceEqDiff, reduceMul, reduceAdd, reduceDiv, Nat.reduceBEq, reduceLeDiff, reduceToNat, reduceNe, reduceEq, reduceLT, reduceLE, Int.reduceBEq, Int.reduceBNe, e7, e8, e9, e10, e11, m10, hs, and_self]
    rfl
  · obtain rfl : i = l.length := by omega
    rw [List.take_length] at m10
    have hil : (l.map (movU d)).length = l.length := by simp
    generalize l.map (movU d) = o at *
    have hil2 : (l.length ≤ o.length) = True := eq_true (by omega)
    simp -implicitDefEqProofs (disch := omega) only [go_sem, ↓reduceIte, reduceEqDiff, reduceMul, reduceAdd, reduceDiv, Nat.reduceBEq, reduceLeDiff, reduceToNat, reduceNe, reduceEq, reduceLT, reduceLE, Int.reduceBEq, Int.reduceBNe, e7, e8, e9, e10, e11, m10]
    refine callC_at c3 ?_
    simp -implicitDefEqProofs (disch := omega) only [go_sem, ↓reduceIte, reduceEqDiff, reduceMul, reduceAdd, reduceDiv, Nat.reduceBEq, reduceLeDiff, reduceToNat, reduceNe, reduceEq, reduceLT, reduceLE, Int.reduceBEq, Int.reduceBNe, e7, e8, e9, e10, e11, m10, hil2]
    refine callC_sem rfl ?_
    refine freeze_op [20971680] ?_
    simp -implicitDefEqProofs (disch := omega) only [go_sem, ↓reduceIte, reduceEqDiff, reduceMul, reduceAdd, reduceDiv, Nat.reduceBEq, reduceLeDiff, reduceToNat, reduceNe, reduceEq, reduceLT, reduceLE, Int.reduceBEq, Int.reduceBNe, e7, e8, e9, e10, e11, m10, hil2]
    refine callC_at c4 ?_
    simp -implicitDefEqProofs (disch := omega) only [go_sem, ↓reduceIte, reduceEqDiff, reduceMul, reduceAdd, reduceDiv, Nat.reduceBEq, reduceLeDiff, reduceToNat, reduceNe, reduceEq, reduceLT, reduceLE, Int.reduceBEq, Int.reduceBNe, e7, e8, e9, e10, e11, m10]
    refine callC_at c5 ?_
    simp -implicitDefEqProofs (disch := omega) only [go_sem, ↓reduceIte, reduceEqDiff, reduceMul, reduceAdd, reduceDiv, Nat.reduceBEq, reduceLeDiff, reduceToNat, reduceNe, reduceEq, reduceLT, reduceLE, Int.reduceBEq, Int.reduceBNe, e7, e8, e9, e10, e11, m10, hil2]
    refine callC_at c6 ?_
    simp -implicitDefEqProofs (disch := omega) only [go_sem, ↓reduceIte, reduceEqDiff, reduceMul, reduceAdd, reduceDiv, Nat.reduceBEq, reduceLeDiff, reduceToNat, reduceNe, reduceEq, reduceLT, reduceLE, Int.reduceBEq, Int.reduceBNe]
    refine callC_at (sameB_ev m m (by omega) (by omega)) ?_
    simp -implicitDefEqProofs (disch := omega) only [go_sem, ↓reduceIte, reduceEqDiff, reduceMul, reduceAdd, reduceDiv, Nat.reduceBEq, reduceLeDiff, reduceToNat, reduceNe, reduceEq, reduceLT, reduceLE, Int.reduceBEq, Int.reduceBNe, Tryd.results9]
end Go.Proofs.YthkihocapdfonaaDoor
set_option maxRecDepth 100000
namespace Go.Proofs.YthkihocapdfonaaDoor
open Go.Vai Go Go.Proofs
open Nat (reduceEqDiff reduceMul reduceAdd reduceDiv reduceLeDiff)
open Int (reduceToNat reduceNe reduceEq reduceLT reduceLE)
theorem tableMoves_lifted (os : Os) (started : os.Started) (H : Type) (enc : TypeId × Value → H) :
    ReturnsInHanded {} Tryd.checked os 9 .any (fun w args => (Rows.tableMovesSpec.pre enc Tryd.prog Tryd.f9 [] false w args ∧ laidMetH Tryd.prog laid3 w) ∧ sizedMet enc Tryd.prog Tryd.f9 (OpenSpec.ofChange Rows.tableMovesSpec) false w args)
      (Rows.tableMovesSpec.post enc Tryd.prog Tryd.f9 false true false false) :=
  liftedG (C := Tryd.checked) (tb := 4) (ps := [OQ, OI, OI]) (X := fun w _ => laidMetH Tryd.prog laid3 w) (fun _ _ _ hh h => h.of_heap hh) own3 started (by kernel_rfl) Tryd.func9
    (ChangeSpec.witness_shaped (enc := enc) (C := Tryd.checked) (os := os) (X := fun w _ => laidMetH Tryd.prog laid3 w) false (World.doorLaid Tryd.prog 14 os) #[.slice none 0 0, .int .i64 0, .int .i64 0] 8 rfl (World.shaped_of_RefB (by kernel_rfl) (by kernel_rfl)) (by kernel_rfl) (by kernel_rfl) (by kernel_rfl) (door_met os _))
    laidOut3 (by kernel_rfl) (by kernel_rfl) (by kernel_rfl) rfl (len_3 fun _ _ _ => rfl)
    (fun w => ⟨o_fours, o_int (by kernel_rfl), o_int (by kernel_rfl), trivial⟩)
    (allP_3 fun a0 a1 a2 h0 h1 h2 => by
      obtain ⟨x0, hx0, hr0, rfl⟩ := h0
      obtain ⟨x1, hx1, rfl⟩ := h1
      obtain ⟨x2, hx2, rfl⟩ := h2
      exact moves_ev x0 x1 x2 hx0 hr0 hx1 hx2)
    (fun _ _ h => gok h)
theorem tableMoves_row : Rows.TableMovesSaid :=
  OpenClaim.holds_of_wide 9 Tryd.f9 rfl rfl rfl rfl rfl rfl rfl ⟨rfl, rfl, rfl, rfl, rfl⟩ rfl rfl rfl rfl rfl (by kernel_rfl) Tryd.func9 (by kernel_rfl)
    (of_decide_eq_true (by kernel_rfl)) (by unfold Func.isWrapper; first | (rw [if_pos (by decide +kernel)]; kernel_rfl) | (rw [if_neg (by decide +kernel)]; exact ⟨rfl, rfl⟩))
    (fun os started H enc _ => tableMoves_lifted os started H enc)
theorem tableMoves_holds : Rows.TableMovesCardSaid :=
  Claim7.holds_tied_plain_at .later [] [.data] true (true, "a7fbe88a3d6af073a3870589c160493439a8c551a37f68fc5a20ba86f7e405cd") false
    tableMoves_row (fun _ h => by cases h) (by kernel_rfl) (fun _ h => by cases h) tableMoves_row_tie rfl ⟨rfl, rfl⟩ (by kernel_rfl) rfl
    (fun f fn hf hfn => by
      obtain rfl : f = 9 := Option.some.inj ((show Tryd.prog.funcNamed "dialtone/dialtonelaw23.TableMoves" = some 9 by kernel_rfl).symm.trans hf) |>.symm
      obtain rfl : fn = Tryd.f9 := (Option.some.inj (Tryd.func9.symm.trans hfn)).symm
      exact ⟨by kernel_rfl, fun j t ht => by
          rw [Tryd.params9] at ht
          rcases j with _ | j
          · obtain rfl : t = 22 := by simpa using ht.symm
            exact (show Tryd.prog.wantsStandIn 22 = false by kernel_rfl)
          rcases j with _ | j
          · obtain rfl : t = 3 := by simpa using ht.symm
            exact (show Tryd.prog.wantsStandIn 3 = false by kernel_rfl)
          rcases j with _ | j
          · obtain rfl : t = 3 := by simpa using ht.symm
            exact (show Tryd.prog.wantsStandIn 3 = false by kernel_rfl)
          simp at ht⟩)
    (by kernel_rfl)
#print axioms tableMoves_holds
end Go.Proofs.YthkihocapdfonaaDoor

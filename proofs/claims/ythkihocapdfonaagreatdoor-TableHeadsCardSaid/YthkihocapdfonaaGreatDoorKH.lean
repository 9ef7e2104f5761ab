/- Heads; the document's texts; the example; the frame -/
import Derived.Test.YthkihocapdfonaaGreatDoorKG
import Derived.Test.YthkihocapdfonaaGreatDoorRows
import Derived.Test.YthkihocapdfonaaGreatDoorCards
import Derived.Test.YthkihocapdfonaaGreatDoorTie
import Derived.ProofKit
import Derived.LaidMore
import Derived.OpenShut
import Derived.Stop.Joined
import Derived.Handed
import Derived.Lay
set_option linter.unusedVariables false
set_option linter.unusedSimpArgs false
set_option maxRecDepth 100000
namespace Go.Proofs.YthkihocapdfonaaGreatDoor
open Go.Vai Go Go.Proofs
open Nat (reduceEqDiff reduceMul reduceAdd reduceDiv reduceLeDiff)
open Int (reduceToNat reduceNe reduceEq reduceLT reduceLE)
theorem catF_two (a b : ByteArray) : catF [a, b] = a ++ b := by
  unfold catF
  rw [List.map_cons, List.map_cons, List.map_nil, Lib.join_cons]
  simp only [Lib.joinTail, List.map_cons, List.map_nil, List.flatten_cons, List.flatten_nil, List.append_nil]
  apply ByteArray.ext
  simp [ByteArray.data_append]
theorem chain_ev (a b : ByteArray) (hl : a.size + b.size ≤ 99999999) : Ev Tryz.prog 37 [Str a, Str b] (Str (chainF a b)) := by
  refine ev_of Tryz.func37 rfl (by kernel_rfl) mo (Nat.le_of_ble_eq_true rfl) ?_
  simp -implicitDefEqProofs (disch := omega) only [go_sem, ↓reduceIte, reduceEqDiff, reduceMul, reduceAdd, reduceDiv, Nat.reduceBEq, reduceLeDiff, reduceToNat, reduceNe, reduceEq, reduceLT, reduceLE, Int.reduceBEq, Int.reduceBNe, Tryz.ntmps37]
  refine callC_at (marked_ev _) ?_
  simp -implicitDefEqProofs (disch := omega) only [go_sem, ↓reduceIte, reduceEqDiff, reduceMul, reduceAdd, reduceDiv, Nat.reduceBEq, reduceLeDiff, reduceToNat, reduceNe, reduceEq, reduceLT, reduceLE, Int.reduceBEq, Int.reduceBNe]
  refine callC_at (marked1_ev ⟨#[2]⟩ [a, b] ?_ (by simp)) ?_
  · rw [catF_two, ByteArray.size_append]; show 1 + _ ≤ _; omega
  simp -implicitDefEqProofs (disch := omega) only [go_sem, ↓reduceIte, reduceEqDiff, reduceMul, reduceAdd, reduceDiv, Nat.reduceBEq, reduceLeDiff, reduceToNat, reduceNe, reduceEq, reduceLT, reduceLE, Int.reduceBEq, Int.reduceBNe, Tryz.results37, catF_two, chainF]
theorem numS_append (a : List Int) (n : Int) : numS (a ++ [n]) = numS a ++ viS n := by
  refine bI_inj ?_
  rw [numS_bI, bI_append, numS_bI]; simp [numBC]
theorem put_ev (l : List Int) (hl : l.length ≤ 1000) (hb : ∀ n ∈ l, -4611686018427387903 ≤ n ∧ n ≤ 4611686018427387903) : Ev Tryz.prog 42 [SL l] (Str (numS l)) := by
  refine ev_of Tryz.func42 rfl (by kernel_rfl) mo (Nat.le_of_ble_eq_true rfl) ?_
  simp -implicitDefEqProofs (disch := omega) only [go_sem, ↓reduceIte, reduceEqDiff, reduceMul, reduceAdd, reduceDiv, Nat.reduceBEq, reduceLeDiff, reduceToNat, reduceNe, reduceEq, reduceLT, reduceLE, Int.reduceBEq, Int.reduceBNe, Tryz.ntmps42]
  refine loopC_mk (fun n E σ => ∃ i : Nat, i + n = l.length ∧ E 3 = Str (numS (l.take i)) ∧ E 8 = SL l ∧ E 9 = I l.length ∧ E 10 = I i) l.length ⟨0, by omega, ?_⟩ ?_
  · simp -implicitDefEqProofs (disch := omega) only [go_sem, ↓reduceIte, reduceEqDiff, reduceMul, reduceAdd, reduceDiv, Nat.reduceBEq, reduceLeDiff, reduceToNat, reduceNe, reduceEq, reduceLT, reduceLE, Int.reduceBEq, Int.reduceBNe]
    exact ⟨rfl, rfl⟩
  rintro n E σ ⟨i, hn, e3, e8, e9, e10⟩
  simp -implicitDefEqProofs (disch := omega) only [go_sem, ↓reduceIte, reduceEqDiff, reduceMul, reduceAdd, reduceDiv, Nat.reduceBEq, reduceLeDiff, reduceToNat, reduceNe, reduceEq, reduceLT, reduceLE, Int.reduceBEq, Int.reduceBNe, e3, e8, e9, e10]
  refine branch_mk (fun hc => ?_) (fun hc => ?_)
  · have hb' := hb _ (gd_mem l i (by omega))
    have hs := numS_append (l.take i) (gd l i)
    rw [← take_succ' l i (by omega)] at hs
    have hsz := numS_size (l.take i)
    have hsz2 := numS_size (l.take (i + 1))
    rw [List.length_take] at hsz hsz2
    generalize numS (l.take i) = A at *
    rw [hs, ByteArray.size_append] at hsz2
    simp -implicitDefEqProofs (disch := omega) only [go_sem, ↓reduceIte, reduceEqDiff, reduceMul, reduceAdd, reduceDiv, Nat.reduceBEq, reduceLeDiff, reduceToNat, reduceNe, reduceEq, reduceLT, reduceLE, Int.reduceBEq, Int.reduceBNe, e3, e8, e9, e10]
    refine callC_at (putInt_ev _ hb'.1 hb'.2) ?_
    simp -implicitDefEqProofs (disch := omega) only [go_sem, ↓reduceIte, reduceEqDiff, reduceMul, reduceAdd, reduceDiv, Nat.reduceBEq, reduceLeDiff, reduceToNat, reduceNe, reduceEq, reduceLT, reduceLE, Int.reduceBEq, Int.reduceBNe, e3, e8, e9, e10]
    refine againQ_mk (l.length - (i + 1)) (by omega) ⟨i + 1, by omega, ?_⟩
    simp -implicitDefEqProofs (disch := omega) only [go_sem, ↓reduceIte, reduceEqDiff, reduceMul, reduceAdd, reduceDiv, Nat.reduceBEq, reduceLeDiff, reduceToNat, reduceNe, reduceEq, reduceLT, reduceLE, Int.reduceBEq, Int.reduceBNe, e3, e8, e9, e10, hs]
    rfl
  · obtain rfl : i = l.length := by omega
    rw [List.take_length] at e3
    simp -implicitDefEqProofs (disch := omega) only [go_sem, ↓reduceIte, reduceEqDiff, reduceMul, reduceAdd, reduceDiv, Nat.reduceBEq, reduceLeDiff, reduceToNat, reduceNe, reduceEq, reduceLT, reduceLE, Int.reduceBEq, Int.reduceBNe, e3, Tryz.results42]
theorem numS_four (u : Up) : numS [u.f, u.t, u.c, u.a] = encU u := rfl
theorem z32 : strOfNums (List.replicate 32 0) = zero32 := by decide
theorem head_ev (l : List Up) (v : Int) (hl : l.length ≤ 1000) : Ev Tryz.prog 10 [UPS l, I v] (.tup [Str (if inV l v then headN l v.toNat else ⟨#[]⟩), I (if inV l v then 0 else 230)]) := by
  refine ev_of Tryz.func10 rfl (by kernel_rfl) mo (Nat.le_of_ble_eq_true rfl) ?_
  simp -implicitDefEqProofs (disch := omega) only [go_sem, ↓reduceIte, reduceEqDiff, reduceMul, reduceAdd, reduceDiv, Nat.reduceBEq, reduceLeDiff, reduceToNat, reduceNe, reduceEq, reduceLT, reduceLE, Int.reduceBEq, Int.reduceBNe, Tryz.ntmps10]
  refine callC_at (tvalid_ev l hl) ?_
  by_cases h1 : validT l = true
  case neg =>
    rw [if_neg (fun h => h1 h.1), if_neg (fun h => h1 h.1)]
    have h1 : validT l = false := by simpa using h1
    simp -implicitDefEqProofs (disch := omega) only [go_sem, ↓reduceIte, reduceEqDiff, reduceMul, reduceAdd, reduceDiv, Nat.reduceBEq, reduceLeDiff, reduceToNat, reduceNe, reduceEq, reduceLT, reduceLE, Int.reduceBEq, Int.reduceBNe, h1, Tryz.results10]
  simp -implicitDefEqProofs (disch := omega) only [go_sem, ↓reduceIte, reduceEqDiff, reduceMul, reduceAdd, reduceDiv, Nat.reduceBEq, reduceLeDiff, reduceToNat, reduceNe, reduceEq, reduceLT, reduceLE, Int.reduceBEq, Int.reduceBNe, h1]
  refine callC_at (isIn_ev v 0 l.length) ?_
  by_cases h2 : 0 ≤ v ∧ v ≤ l.length
  case neg =>
    rw [if_neg (fun h => h2 h.2), if_neg (fun h => h2 h.2)]
    simp -implicitDefEqProofs (disch := omega) only [go_sem, ↓reduceIte, reduceEqDiff, reduceMul, reduceAdd, reduceDiv, Nat.reduceBEq, reduceLeDiff, reduceToNat, reduceNe, reduceEq, reduceLT, reduceLE, Int.reduceBEq, Int.reduceBNe, h2, Tryz.results10]
  rw [if_pos ⟨h1, h2⟩, if_pos ⟨h1, h2⟩]
  obtain ⟨k, rfl⟩ : ∃ k : Nat, v = k := ⟨v.toNat, by omega⟩
  rw [Int.toNat_natCast]
  have hk : k ≤ l.length := by omega
  simp -implicitDefEqProofs (disch := omega) only [go_sem, ↓reduceIte, reduceEqDiff, reduceMul, reduceAdd, reduceDiv, Nat.reduceBEq, reduceLeDiff, reduceToNat, reduceNe, reduceEq, reduceLT, reduceLE, Int.reduceBEq, Int.reduceBNe, h2, and_self]
  refine toStr_mk (List.replicate 32 0) (by simp -implicitDefEqProofs (disch := omega) only [go_sem, ↓reduceIte, reduceEqDiff, reduceMul, reduceAdd, reduceDiv, Nat.reduceBEq, reduceLeDiff, reduceToNat, reduceNe, reduceEq, reduceLT, reduceLE, Int.reduceBEq, Int.reduceBNe]; rfl) (by intro b; simp -implicitDefEqProofs (disch := omega) only [go_sem, ↓reduceIte, reduceEqDiff, reduceMul, reduceAdd, reduceDiv, Nat.reduceBEq, reduceLeDiff, reduceToNat, reduceNe, reduceEq, reduceLT, reduceLE, Int.reduceBEq, Int.reduceBNe]; intro e; cases e) (e := 5) rfl rfl rfl ?_
  rw [z32]
  simp -implicitDefEqProofs (disch := omega) only [go_sem, ↓reduceIte, reduceEqDiff, reduceMul, reduceAdd, reduceDiv, Nat.reduceBEq, reduceLeDiff, reduceToNat, reduceNe, reduceEq, reduceLT, reduceLE, Int.reduceBEq, Int.reduceBNe]
  have hlt : (l.take k).length = k := by rw [List.length_take]; omega
  refine loopC_mk (fun n E σ => ∃ i : Nat, i + n = k ∧ E 6 = Str (headN l i) ∧ E 23 = UPS (l.take k) ∧ E 24 = I k ∧ E 25 = I i) k ⟨0, by omega, ?_⟩ ?_
  · simp -implicitDefEqProofs (disch := omega) only [go_sem, ↓reduceIte, reduceEqDiff, reduceMul, reduceAdd, reduceDiv, Nat.reduceBEq, reduceLeDiff, reduceToNat, reduceNe, reduceEq, reduceLT, reduceLE, Int.reduceBEq, Int.reduceBNe]
    rw [Nat.sub_zero, hlt]
    exact ⟨rfl, rfl, rfl, rfl⟩
  rintro n E σ ⟨i, hn, e6, e23, e24, e25⟩
  simp -implicitDefEqProofs (disch := omega) only [go_sem, ↓reduceIte, reduceEqDiff, reduceMul, reduceAdd, reduceDiv, Nat.reduceBEq, reduceLeDiff, reduceToNat, reduceNe, reduceEq, reduceLT, reduceLE, Int.reduceBEq, Int.reduceBNe, e6, e23, e24, e25]
  refine branch_mk (fun hc => ?_) (fun hc => ?_)
  · have hgt : gd (l.take k) i = gd l i := gd_take l k i (by omega)
    have hnb := validT_nb h1 _ (gd_mem l i (by omega))
    have hsz := headN_size l i
    have hes := encU_size (gd l i)
    have hhd : headN l (i + 1) = chainF (headN l i) (encU (gd l i)) := rfl
    obtain ⟨H, hH⟩ : ∃ H, headN l i = H := ⟨_, rfl⟩
    rw [hH] at e6 hsz hhd
    have hput := put_ev [(gd l i).f, (gd l i).t, (gd l i).c, (gd l i).a] (by simp) (by
      intro n hn'
      simp only [List.mem_cons, List.not_mem_nil, or_false] at hn'
      rcases hn' with rfl | rfl | rfl | rfl
      · exact hnb.1
      · exact hnb.2.1
      · exact hnb.2.2.1
      · exact hnb.2.2.2)
    rw [numS_four] at hput
    simp -implicitDefEqProofs (disch := omega) only [go_sem, ↓reduceIte, reduceEqDiff, reduceMul, reduceAdd, reduceDiv, Nat.reduceBEq, reduceLeDiff, reduceToNat, reduceNe, reduceEq, reduceLT, reduceLE, Int.reduceBEq, Int.reduceBNe, e6, e23, e24, e25, hgt, hlt]
    refine callC_at hput ?_
    simp -implicitDefEqProofs (disch := omega) only [go_sem, ↓reduceIte, reduceEqDiff, reduceMul, reduceAdd, reduceDiv, Nat.reduceBEq, reduceLeDiff, reduceToNat, reduceNe, reduceEq, reduceLT, reduceLE, Int.reduceBEq, Int.reduceBNe, e6, e23, e24, e25, hgt, hlt]
    refine callC_at (chain_ev H (encU (gd l i)) (by omega)) ?_
    simp -implicitDefEqProofs (disch := omega) only [go_sem, ↓reduceIte, reduceEqDiff, reduceMul, reduceAdd, reduceDiv, Nat.reduceBEq, reduceLeDiff, reduceToNat, reduceNe, reduceEq, reduceLT, reduceLE, Int.reduceBEq, Int.reduceBNe, e6, e23, e24, e25, hgt, hlt]
    refine againQ_mk (k - (i + 1)) (by omega) ⟨i + 1, by omega, ?_⟩
    simp -implicitDefEqProofs (disch := omega) only [go_sem, ↓reduceIte, reduceEqDiff, reduceMul, reduceAdd, reduceDiv, Nat.reduceBEq, reduceLeDiff, reduceToNat, reduceNe, reduceEq, reduceLT, reduceLE, Int.reduceBEq, Int.reduceBNe, e6, e23, e24, e25, hgt, hlt, hhd]
    rfl
  · obtain rfl : i = k := by omega
    simp -implicitDefEqProofs (disch := omega) only [go_sem, ↓reduceIte, reduceEqDiff, reduceMul, reduceAdd, reduceDiv, Nat.reduceBEq, reduceLeDiff, reduceToNat, reduceNe, reduceEq, reduceLT, reduceLE, Int.reduceBEq, Int.reduceBNe, e6, Tryz.results10]
end Go.Proofs.YthkihocapdfonaaGreatDoor
set_option maxRecDepth 100000
namespace Go.Proofs.YthkihocapdfonaaGreatDoor
open Go.Vai Go Go.Proofs
open Nat (reduceEqDiff reduceMul reduceAdd reduceDiv reduceLeDiff)
open Int (reduceToNat reduceNe reduceEq reduceLT reduceLE)
theorem take_ext {T : Type} [Inhabited T] [DecidableEq T] {a b : List T} (hl : a.length = b.length) {i : Nat} (hi : i < a.length) (h : a.take i = b.take i) (he : gd a i = gd b i) : a.take (i + 1) = b.take (i + 1) := by
  rw [take_succ' a i hi, take_succ' b i (by omega), h, he]
theorem take_ne {T : Type} [Inhabited T] {a b : List T} {i : Nat} (he : gd a i ≠ gd b i) : a ≠ b := fun h => he (by rw [h])
deriving instance DecidableEq for Bk
deriving instance DecidableEq for Up
theorem sameB_ev (a b : List Bk) (la : a.length ≤ 1000000000) (lb : b.length ≤ 1000000000) : Ev Tryz.prog 22 [BL a, BL b] (B (decide (a = b))) := by
  refine ev_of Tryz.func22 rfl (by kernel_rfl) mo (Nat.le_of_ble_eq_true rfl) ?_
  simp -implicitDefEqProofs (disch := omega) only [go_sem, ↓reduceIte, reduceEqDiff, reduceMul, reduceAdd, reduceDiv, Nat.reduceBEq, reduceLeDiff, reduceToNat, reduceNe, reduceEq, reduceLT, reduceLE, Int.reduceBEq, Int.reduceBNe, Tryz.ntmps22]
  refine branch_mk (fun h0 => ?_) (fun h0 => ?_)
  · rw [decide_eq_false (fun e => by rw [e] at h0; exact h0 rfl)]
    simp -implicitDefEqProofs (disch := omega) only [go_sem, ↓reduceIte, reduceEqDiff, reduceMul, reduceAdd, reduceDiv, Nat.reduceBEq, reduceLeDiff, reduceToNat, reduceNe, reduceEq, reduceLT, reduceLE, Int.reduceBEq, Int.reduceBNe, Tryz.results22]
  have hl : a.length = b.length := by omega
  simp -implicitDefEqProofs (disch := omega) only [go_sem, ↓reduceIte, reduceEqDiff, reduceMul, reduceAdd, reduceDiv, Nat.reduceBEq, reduceLeDiff, reduceToNat, reduceNe, reduceEq, reduceLT, reduceLE, Int.reduceBEq, Int.reduceBNe]
  refine loopC_mk (fun n E σ => ∃ i : Nat, i + n = a.length ∧ a.take i = b.take i ∧ E 0 = BL a ∧ E 1 = BL b ∧ E 5 = I i) a.length ⟨0, by omega, rfl, ?_⟩ ?_
  · simp -implicitDefEqProofs (disch := omega) only [go_sem, ↓reduceIte, reduceEqDiff, reduceMul, reduceAdd, reduceDiv, Nat.reduceBEq, reduceLeDiff, reduceToNat, reduceNe, reduceEq, reduceLT, reduceLE, Int.reduceBEq, Int.reduceBNe]
    rfl
  rintro n E σ ⟨i, hn, ht, e0, e1, e5⟩
  simp -implicitDefEqProofs (disch := omega) only [go_sem, ↓reduceIte, reduceEqDiff, reduceMul, reduceAdd, reduceDiv, Nat.reduceBEq, reduceLeDiff, reduceToNat, reduceNe, reduceEq, reduceLT, reduceLE, Int.reduceBEq, Int.reduceBNe, e0, e1, e5]
  refine branch_mk (fun hc => ?_) (fun hc => ?_)
  · simp -implicitDefEqProofs (disch := omega) only [go_sem, ↓reduceIte, reduceEqDiff, reduceMul, reduceAdd, reduceDiv, Nat.reduceBEq, reduceLeDiff, reduceToNat, reduceNe, reduceEq, reduceLT, reduceLE, Int.reduceBEq, Int.reduceBNe, e0, e1, e5]
    have hi : i < b.length := by omega
    refine branch_mk (fun hb => ?_) (fun hb => ?_)
    · have hne : gd a i ≠ gd b i := fun e => by rw [e] at hb; simp at hb
      rw [decide_eq_false (take_ne hne)]
      simp -implicitDefEqProofs (disch := omega) only [go_sem, ↓reduceIte, reduceEqDiff, reduceMul, reduceAdd, reduceDiv, Nat.reduceBEq, reduceLeDiff, reduceToNat, reduceNe, reduceEq, reduceLT, reduceLE, Int.reduceBEq, Int.reduceBNe, Tryz.results22]
    · have he : gd a i = gd b i := by
        generalize gd a i = x at *
        generalize gd b i = y at *
        cases x; cases y; simp_all
      simp -implicitDefEqProofs (disch := omega) only [go_sem, ↓reduceIte, reduceEqDiff, reduceMul, reduceAdd, reduceDiv, Nat.reduceBEq, reduceLeDiff, reduceToNat, reduceNe, reduceEq, reduceLT, reduceLE, Int.reduceBEq, Int.reduceBNe, e0, e1, e5]
      refine againQ_mk (a.length - (i + 1)) (by omega) ⟨i + 1, by omega, take_ext hl (by omega) ht he, ?_⟩
      simp -implicitDefEqProofs (disch := omega) only [go_sem, ↓reduceIte, reduceEqDiff, reduceMul, reduceAdd, reduceDiv, Nat.reduceBEq, reduceLeDiff, reduceToNat, reduceNe, reduceEq, reduceLT, reduceLE, Int.reduceBEq, Int.reduceBNe, e0, e1, e5]
      rfl
  · obtain rfl : i = a.length := by omega
    rw [List.take_length, List.take_of_length_le (by omega)] at ht
    rw [decide_eq_true ht]
    simp -implicitDefEqProofs (disch := omega) only [go_sem, ↓reduceIte, reduceEqDiff, reduceMul, reduceAdd, reduceDiv, Nat.reduceBEq, reduceLeDiff, reduceToNat, reduceNe, reduceEq, reduceLT, reduceLE, Int.reduceBEq, Int.reduceBNe, Tryz.results22]
theorem sameR_ev (a b : List Rg) (la : a.length ≤ 1000000000) (lb : b.length ≤ 1000000000) : Ev Tryz.prog 23 [RL a, RL b] (B (decide (a = b))) := by
  refine ev_of Tryz.func23 rfl (by kernel_rfl) mo (Nat.le_of_ble_eq_true rfl) ?_
  simp -implicitDefEqProofs (disch := omega) only [go_sem, ↓reduceIte, reduceEqDiff, reduceMul, reduceAdd, reduceDiv, Nat.reduceBEq, reduceLeDiff, reduceToNat, reduceNe, reduceEq, reduceLT, reduceLE, Int.reduceBEq, Int.reduceBNe, Tryz.ntmps23]
  refine branch_mk (fun h0 => ?_) (fun h0 => ?_)
  · rw [decide_eq_false (fun e => by rw [e] at h0; exact h0 rfl)]
    simp -implicitDefEqProofs (disch := omega) only [go_sem, ↓reduceIte, reduceEqDiff, reduceMul, reduceAdd, reduceDiv, Nat.reduceBEq, reduceLeDiff, reduceToNat, reduceNe, reduceEq, reduceLT, reduceLE, Int.reduceBEq, Int.reduceBNe, Tryz.results23]
  have hl : a.length = b.length := by omega
  simp -implicitDefEqProofs (disch := omega) only [go_sem, ↓reduceIte, reduceEqDiff, reduceMul, reduceAdd, reduceDiv, Nat.reduceBEq, reduceLeDiff, reduceToNat, reduceNe, reduceEq, reduceLT, reduceLE, Int.reduceBEq, Int.reduceBNe]
  refine loopC_mk (fun n E σ => ∃ i : Nat, i + n = a.length ∧ a.take i = b.take i ∧ E 0 = RL a ∧ E 1 = RL b ∧ E 5 = I i) a.length ⟨0, by omega, rfl, ?_⟩ ?_
  · simp -implicitDefEqProofs (disch := omega) only [go_sem, ↓reduceIte, reduceEqDiff, reduceMul, reduceAdd, reduceDiv, Nat.reduceBEq, reduceLeDiff, reduceToNat, reduceNe, reduceEq, reduceLT, reduceLE, Int.reduceBEq, Int.reduceBNe]
    rfl
  rintro n E σ ⟨i, hn, ht, e0, e1, e5⟩
  simp -implicitDefEqProofs (disch := omega) only [go_sem, ↓reduceIte, reduceEqDiff, reduceMul, reduceAdd, reduceDiv, Nat.reduceBEq, reduceLeDiff, reduceToNat, reduceNe, reduceEq, reduceLT, reduceLE, Int.reduceBEq, Int.reduceBNe, e0, e1, e5]
  refine branch_mk (fun hc => ?_) (fun hc => ?_)
  · simp -implicitDefEqProofs (disch := omega) only [go_sem, ↓reduceIte, reduceEqDiff, reduceMul, reduceAdd, reduceDiv, Nat.reduceBEq, reduceLeDiff, reduceToNat, reduceNe, reduceEq, reduceLT, reduceLE, Int.reduceBEq, Int.reduceBNe, e0, e1, e5]
    have hi : i < b.length := by omega
    refine branch_mk (fun hb => ?_) (fun hb => ?_)
    · have hne : gd a i ≠ gd b i := fun e => by rw [e] at hb; simp at hb
      rw [decide_eq_false (take_ne hne)]
      simp -implicitDefEqProofs (disch := omega) only [go_sem, ↓reduceIte, reduceEqDiff, reduceMul, reduceAdd, reduceDiv, Nat.reduceBEq, reduceLeDiff, reduceToNat, reduceNe, reduceEq, reduceLT, reduceLE, Int.reduceBEq, Int.reduceBNe, Tryz.results23]
    · have he : gd a i = gd b i := by
        generalize gd a i = x at *
        generalize gd b i = y at *
        cases x; cases y; simp_all
      simp -implicitDefEqProofs (disch := omega) only [go_sem, ↓reduceIte, reduceEqDiff, reduceMul, reduceAdd, reduceDiv, Nat.reduceBEq, reduceLeDiff, reduceToNat, reduceNe, reduceEq, reduceLT, reduceLE, Int.reduceBEq, Int.reduceBNe, e0, e1, e5]
      refine againQ_mk (a.length - (i + 1)) (by omega) ⟨i + 1, by omega, take_ext hl (by omega) ht he, ?_⟩
      simp -implicitDefEqProofs (disch := omega) only [go_sem, ↓reduceIte, reduceEqDiff, reduceMul, reduceAdd, reduceDiv, Nat.reduceBEq, reduceLeDiff, reduceToNat, reduceNe, reduceEq, reduceLT, reduceLE, Int.reduceBEq, Int.reduceBNe, e0, e1, e5]
      rfl
  · obtain rfl : i = a.length := by omega
    rw [List.take_length, List.take_of_length_le (by omega)] at ht
    rw [decide_eq_true ht]
    simp -implicitDefEqProofs (disch := omega) only [go_sem, ↓reduceIte, reduceEqDiff, reduceMul, reduceAdd, reduceDiv, Nat.reduceBEq, reduceLeDiff, reduceToNat, reduceNe, reduceEq, reduceLT, reduceLE, Int.reduceBEq, Int.reduceBNe, Tryz.results23]
theorem sameU_ev (a b : List Up) (la : a.length ≤ 1000000000) (lb : b.length ≤ 1000000000) : Ev Tryz.prog 11 [UPS a, UPS b] (B (decide (a = b))) := by
  refine ev_of Tryz.func11 rfl (by kernel_rfl) mo (Nat.le_of_ble_eq_true rfl) ?_
  simp -implicitDefEqProofs (disch := omega) only [go_sem, ↓reduceIte, reduceEqDiff, reduceMul, reduceAdd, reduceDiv, Nat.reduceBEq, reduceLeDiff, reduceToNat, reduceNe, reduceEq, reduceLT, reduceLE, Int.reduceBEq, Int.reduceBNe, Tryz.ntmps11]
  refine branch_mk (fun h0 => ?_) (fun h0 => ?_)
  · rw [decide_eq_false (fun e => by rw [e] at h0; exact h0 rfl)]
    simp -implicitDefEqProofs (disch := omega) only [go_sem, ↓reduceIte, reduceEqDiff, reduceMul, reduceAdd, reduceDiv, Nat.reduceBEq, reduceLeDiff, reduceToNat, reduceNe, reduceEq, reduceLT, reduceLE, Int.reduceBEq, Int.reduceBNe, Tryz.results11]
  have hl : a.length = b.length := by omega
  simp -implicitDefEqProofs (disch := omega) only [go_sem, ↓reduceIte, reduceEqDiff, reduceMul, reduceAdd, reduceDiv, Nat.reduceBEq, reduceLeDiff, reduceToNat, reduceNe, reduceEq, reduceLT, reduceLE, Int.reduceBEq, Int.reduceBNe]
  refine loopC_mk (fun n E σ => ∃ i : Nat, i + n = a.length ∧ a.take i = b.take i ∧ E 0 = UPS a ∧ E 1 = UPS b ∧ E 5 = I i) a.length ⟨0, by omega, rfl, ?_⟩ ?_
  · simp -implicitDefEqProofs (disch := omega) only [go_sem, ↓reduceIte, reduceEqDiff, reduceMul, reduceAdd, reduceDiv, Nat.reduceBEq, reduceLeDiff, reduceToNat, reduceNe, reduceEq, reduceLT, reduceLE, Int.reduceBEq, Int.reduceBNe]
    rfl
  rintro n E σ ⟨i, hn, ht, e0, e1, e5⟩
  simp -implicitDefEqProofs (disch := omega) only [go_sem, ↓reduceIte, reduceEqDiff, reduceMul, reduceAdd, reduceDiv, Nat.reduceBEq, reduceLeDiff, reduceToNat, reduceNe, reduceEq, reduceLT, reduceLE, Int.reduceBEq, Int.reduceBNe, e0, e1, e5]
  refine branch_mk (fun hc => ?_) (fun hc => ?_)
  · simp -implicitDefEqProofs (disch := omega) only [go_sem, ↓reduceIte, reduceEqDiff, reduceMul, reduceAdd, reduceDiv, Nat.reduceBEq, reduceLeDiff, reduceToNat, reduceNe, reduceEq, reduceLT, reduceLE, Int.reduceBEq, Int.reduceBNe, e0, e1, e5]
    have hi : i < b.length := by omega
    refine branch_mk (fun hb => ?_) (fun hb => ?_)
    · have hne : gd a i ≠ gd b i := fun e => by rw [e] at hb; simp at hb
      rw [decide_eq_false (take_ne hne)]
      simp -implicitDefEqProofs (disch := omega) only [go_sem, ↓reduceIte, reduceEqDiff, reduceMul, reduceAdd, reduceDiv, Nat.reduceBEq, reduceLeDiff, reduceToNat, reduceNe, reduceEq, reduceLT, reduceLE, Int.reduceBEq, Int.reduceBNe, Tryz.results11]
    · have he : gd a i = gd b i := by
        generalize gd a i = x at *
        generalize gd b i = y at *
        cases x; cases y; simp_all
      simp -implicitDefEqProofs (disch := omega) only [go_sem, ↓reduceIte, reduceEqDiff, reduceMul, reduceAdd, reduceDiv, Nat.reduceBEq, reduceLeDiff, reduceToNat, reduceNe, reduceEq, reduceLT, reduceLE, Int.reduceBEq, Int.reduceBNe, e0, e1, e5]
      refine againQ_mk (a.length - (i + 1)) (by omega) ⟨i + 1, by omega, take_ext hl (by omega) ht he, ?_⟩
      simp -implicitDefEqProofs (disch := omega) only [go_sem, ↓reduceIte, reduceEqDiff, reduceMul, reduceAdd, reduceDiv, Nat.reduceBEq, reduceLeDiff, reduceToNat, reduceNe, reduceEq, reduceLT, reduceLE, Int.reduceBEq, Int.reduceBNe, e0, e1, e5]
      rfl
  · obtain rfl : i = a.length := by omega
    rw [List.take_length, List.take_of_length_le (by omega)] at ht
    rw [decide_eq_true ht]
    simp -implicitDefEqProofs (disch := omega) only [go_sem, ↓reduceIte, reduceEqDiff, reduceMul, reduceAdd, reduceDiv, Nat.reduceBEq, reduceLeDiff, reduceToNat, reduceNe, reduceEq, reduceLT, reduceLE, Int.reduceBEq, Int.reduceBNe, Tryz.results11]
theorem sameI_ev (a b : List Int) (la : a.length ≤ 1000000000) (lb : b.length ≤ 1000000000) : Ev Tryz.prog 31 [SL a, SL b] (B (decide (a = b))) := by
  refine ev_of Tryz.func31 rfl (by kernel_rfl) mo (Nat.le_of_ble_eq_true rfl) ?_
  simp -implicitDefEqProofs (disch := omega) only [go_sem, ↓reduceIte, reduceEqDiff, reduceMul, reduceAdd, reduceDiv, Nat.reduceBEq, reduceLeDiff, reduceToNat, reduceNe, reduceEq, reduceLT, reduceLE, Int.reduceBEq, Int.reduceBNe, Tryz.ntmps31]
  refine branch_mk (fun h0 => ?_) (fun h0 => ?_)
  · rw [decide_eq_false (fun e => by rw [e] at h0; exact h0 rfl)]
    simp -implicitDefEqProofs (disch := omega) only [go_sem, ↓reduceIte, reduceEqDiff, reduceMul, reduceAdd, reduceDiv, Nat.reduceBEq, reduceLeDiff, reduceToNat, reduceNe, reduceEq, reduceLT, reduceLE, Int.reduceBEq, Int.reduceBNe, Tryz.results31]
  have hl : a.length = b.length := by omega
  simp -implicitDefEqProofs (disch := omega) only [go_sem, ↓reduceIte, reduceEqDiff, reduceMul, reduceAdd, reduceDiv, Nat.reduceBEq, reduceLeDiff, reduceToNat, reduceNe, reduceEq, reduceLT, reduceLE, Int.reduceBEq, Int.reduceBNe]
  refine loopC_mk (fun n E σ => ∃ i : Nat, i + n = a.length ∧ a.take i = b.take i ∧ E 0 = SL a ∧ E 1 = SL b ∧ E 5 = I i) a.length ⟨0, by omega, rfl, ?_⟩ ?_
  · simp -implicitDefEqProofs (disch := omega) only [go_sem, ↓reduceIte, reduceEqDiff, reduceMul, reduceAdd, reduceDiv, Nat.reduceBEq, reduceLeDiff, reduceToNat, reduceNe, reduceEq, reduceLT, reduceLE, Int.reduceBEq, Int.reduceBNe]
    rfl
  rintro n E σ ⟨i, hn, ht, e0, e1, e5⟩
  simp -implicitDefEqProofs (disch := omega) only [go_sem, ↓reduceIte, reduceEqDiff, reduceMul, reduceAdd, reduceDiv, Nat.reduceBEq, reduceLeDiff, reduceToNat, reduceNe, reduceEq, reduceLT, reduceLE, Int.reduceBEq, Int.reduceBNe, e0, e1, e5]
  refine branch_mk (fun hc => ?_) (fun hc => ?_)
  · simp -implicitDefEqProofs (disch := omega) only [go_sem, ↓reduceIte, reduceEqDiff, reduceMul, reduceAdd, reduceDiv, Nat.reduceBEq, reduceLeDiff, reduceToNat, reduceNe, reduceEq, reduceLT, reduceLE, Int.reduceBEq, Int.reduceBNe, e0, e1, e5]
    have hi : i < b.length := by omega
    refine branch_mk (fun hb => ?_) (fun hb => ?_)
    · have hne : gd a i ≠ gd b i := fun e => by rw [e] at hb; simp at hb
      rw [decide_eq_false (take_ne hne)]
      simp -implicitDefEqProofs (disch := omega) only [go_sem, ↓reduceIte, reduceEqDiff, reduceMul, reduceAdd, reduceDiv, Nat.reduceBEq, reduceLeDiff, reduceToNat, reduceNe, reduceEq, reduceLT, reduceLE, Int.reduceBEq, Int.reduceBNe, Tryz.results31]
    · have he : gd a i = gd b i := by simpa using hb
      simp -implicitDefEqProofs (disch := omega) only [go_sem, ↓reduceIte, reduceEqDiff, reduceMul, reduceAdd, reduceDiv, Nat.reduceBEq, reduceLeDiff, reduceToNat, reduceNe, reduceEq, reduceLT, reduceLE, Int.reduceBEq, Int.reduceBNe, e0, e1, e5]
      refine againQ_mk (a.length - (i + 1)) (by omega) ⟨i + 1, by omega, take_ext hl (by omega) ht he, ?_⟩
      simp -implicitDefEqProofs (disch := omega) only [go_sem, ↓reduceIte, reduceEqDiff, reduceMul, reduceAdd, reduceDiv, Nat.reduceBEq, reduceLeDiff, reduceToNat, reduceNe, reduceEq, reduceLT, reduceLE, Int.reduceBEq, Int.reduceBNe, e0, e1, e5]
      rfl
  · obtain rfl : i = a.length := by omega
    rw [List.take_length, List.take_of_length_le (by omega)] at ht
    rw [decide_eq_true ht]
    simp -implicitDefEqProofs (disch := omega) only [go_sem, ↓reduceIte, reduceEqDiff, reduceMul, reduceAdd, reduceDiv, Nat.reduceBEq, reduceLeDiff, reduceToNat, reduceNe, reduceEq, reduceLT, reduceLE, Int.reduceBEq, Int.reduceBNe, Tryz.results31]
end Go.Proofs.YthkihocapdfonaaGreatDoor
set_option maxRecDepth 100000
namespace Go.Proofs.YthkihocapdfonaaGreatDoor
open Go.Vai Go Go.Proofs
open Nat (reduceEqDiff reduceMul reduceAdd reduceDiv reduceLeDiff)
open Int (reduceToNat reduceNe reduceEq reduceLT reduceLE)
theorem pick13_ev (c n : Int) (hc : R64 c) (hn : 0 < n) : Ev Tryz.prog 59 [I c, I n] (I (pickF c n)) := by
  obtain ⟨h1, h2⟩ := hc
  refine ev_of Tryz.func59 rfl (by kernel_rfl) mo (Nat.le_of_ble_eq_true rfl) ?_
  simp -implicitDefEqProofs (disch := omega) only [go_sem, ↓reduceIte, reduceEqDiff, reduceMul, reduceAdd, reduceDiv, Nat.reduceBEq, reduceLeDiff, reduceToNat, reduceNe, reduceEq, reduceLT, reduceLE, Int.reduceBEq, Int.reduceBNe, Tryz.ntmps59]
  refine branch_mk (fun h => ?_) (fun h => ?_) <;> simp -implicitDefEqProofs (disch := omega) only [go_sem, ↓reduceIte, reduceEqDiff, reduceMul, reduceAdd, reduceDiv, Nat.reduceBEq, reduceLeDiff, reduceToNat, reduceNe, reduceEq, reduceLT, reduceLE, Int.reduceBEq, Int.reduceBNe, Tryz.results59]
  · rw [show (0 - (c+1)) = -(c+1) from by omega]; simp [pickF, h]
  · simp [pickF, h]
theorem pick23_ev (c n : Int) (hc : R64 c) (hn : 0 < n) : Ev Tryz.prog 38 [I c, I n] (I (pickF c n)) := by
  obtain ⟨h1, h2⟩ := hc
  refine ev_of Tryz.func38 rfl (by kernel_rfl) mo (Nat.le_of_ble_eq_true rfl) ?_
  simp -implicitDefEqProofs (disch := omega) only [go_sem, ↓reduceIte, reduceEqDiff, reduceMul, reduceAdd, reduceDiv, Nat.reduceBEq, reduceLeDiff, reduceToNat, reduceNe, reduceEq, reduceLT, reduceLE, Int.reduceBEq, Int.reduceBNe, Tryz.ntmps38]
  refine branch_mk (fun h => ?_) (fun h => ?_) <;> simp -implicitDefEqProofs (disch := omega) only [go_sem, ↓reduceIte, reduceEqDiff, reduceMul, reduceAdd, reduceDiv, Nat.reduceBEq, reduceLeDiff, reduceToNat, reduceNe, reduceEq, reduceLT, reduceLE, Int.reduceBEq, Int.reduceBNe, Tryz.results38]
  · rw [show (0 - (c+1)) = -(c+1) from by omega]; simp [pickF, h]
  · simp [pickF, h]
theorem pick_ev (c n : Int) (hc : R64 c) (hn : 0 < n) : Ev Tryz.prog 9 [I c, I n] (I (pickF c n)) := by
  obtain ⟨h1, h2⟩ := hc
  refine ev_of Tryz.func9 rfl (by kernel_rfl) mo (Nat.le_of_ble_eq_true rfl) ?_
  simp -implicitDefEqProofs (disch := omega) only [go_sem, ↓reduceIte, reduceEqDiff, reduceMul, reduceAdd, reduceDiv, Nat.reduceBEq, reduceLeDiff, reduceToNat, reduceNe, reduceEq, reduceLT, reduceLE, Int.reduceBEq, Int.reduceBNe, Tryz.ntmps9]
  refine branch_mk (fun h => ?_) (fun h => ?_) <;> simp -implicitDefEqProofs (disch := omega) only [go_sem, ↓reduceIte, reduceEqDiff, reduceMul, reduceAdd, reduceDiv, Nat.reduceBEq, reduceLeDiff, reduceToNat, reduceNe, reduceEq, reduceLT, reduceLE, Int.reduceBEq, Int.reduceBNe, Tryz.results9]
  · rw [show (0 - (c+1)) = -(c+1) from by omega]; simp [pickF, h]
  · simp [pickF, h]
theorem piece_ev (a b : Int) (ha : R64 a) (hb : R64 b) : Ev Tryz.prog 39 [I a, I b] (RP (pieceF a b)) := by
  have p1 := pickF_in (c := a) (n := 60) (by omega)
  have p2 := pickF_in (c := b) (n := 60 - pickF a 60) (by omega)
  have e1 := pick13_ev a 60 ha (by omega)
  have e2 := pick13_ev b (60 - pickF a 60) hb (by omega)
  have e3 := pick13_ev a 8 ha (by omega)
  unfold pieceF
  generalize pickF a 60 = u at *
  generalize pickF b (60 - u) = v at *
  generalize pickF a 8 = w at *
  refine ev_of Tryz.func39 rfl (by kernel_rfl) mo (Nat.le_of_ble_eq_true rfl) ?_
  simp -implicitDefEqProofs (disch := omega) only [go_sem, ↓reduceIte, reduceEqDiff, reduceMul, reduceAdd, reduceDiv, Nat.reduceBEq, reduceLeDiff, reduceToNat, reduceNe, reduceEq, reduceLT, reduceLE, Int.reduceBEq, Int.reduceBNe, Tryz.ntmps39]
  refine callC_at e1 ?_
  simp -implicitDefEqProofs (disch := omega) only [go_sem, ↓reduceIte, reduceEqDiff, reduceMul, reduceAdd, reduceDiv, Nat.reduceBEq, reduceLeDiff, reduceToNat, reduceNe, reduceEq, reduceLT, reduceLE, Int.reduceBEq, Int.reduceBNe]
  refine callC_at e2 ?_
  simp -implicitDefEqProofs (disch := omega) only [go_sem, ↓reduceIte, reduceEqDiff, reduceMul, reduceAdd, reduceDiv, Nat.reduceBEq, reduceLeDiff, reduceToNat, reduceNe, reduceEq, reduceLT, reduceLE, Int.reduceBEq, Int.reduceBNe]
  refine callC_at e3 ?_
  simp -implicitDefEqProofs (disch := omega) only [go_sem, ↓reduceIte, reduceEqDiff, reduceMul, reduceAdd, reduceDiv, Nat.reduceBEq, reduceLeDiff, reduceToNat, reduceNe, reduceEq, reduceLT, reduceLE, Int.reduceBEq, Int.reduceBNe]
  refine branch_mk (fun h => ?_) (fun h => ?_)
  · rw [if_pos h]
    simp -implicitDefEqProofs (disch := omega) only [go_sem, ↓reduceIte, reduceEqDiff, reduceMul, reduceAdd, reduceDiv, Nat.reduceBEq, reduceLeDiff, reduceToNat, reduceNe, reduceEq, reduceLT, reduceLE, Int.reduceBEq, Int.reduceBNe, h, Tryz.results39]
  · rw [if_neg h]
    simp -implicitDefEqProofs (disch := omega) only [go_sem, ↓reduceIte, reduceEqDiff, reduceMul, reduceAdd, reduceDiv, Nat.reduceBEq, reduceLeDiff, reduceToNat, reduceNe, reduceEq, reduceLT, reduceLE, Int.reduceBEq, Int.reduceBNe, h, Tryz.results39]
abbrev QP (q : Q4) : AV := .agg [I q.a, I q.b, I q.c, I q.d]
abbrev QL (x : List Q4) : AV := .sl 4 (x.map QP)
def Q4.ok (q : Q4) : Prop := R64 q.a ∧ R64 q.b ∧ R64 q.c ∧ R64 q.d
section
variable (p : Nat → Bool) (l : List Q4)
@[go_sem] theorem namesL_QP : AV.namesL p (l.map QP) = false := namesL_map p l QP fun _ => rfl
@[go_sem] theorem flatL_QP : AV.flatL (l.map QP) = true := flatL_map l QP fun _ => rfl
@[go_sem] theorem allOK_QP : allOK 4 (l.map QP) = true := allOK_map 4 l QP fun _ => ⟨rfl, rfl⟩
end
def tmU : List Q4 → Int → Int
  | [], t => t
  | x :: l, t => tmU l (t + pickF x.d 4)
theorem tmU_in : ∀ (l : List Q4) (t : Int), t ≤ tmU l t ∧ tmU l t ≤ t + 3 * l.length
  | [], t => by simp [tmU]
  | x :: l, t => by
    have h := pickF_in (c := x.d) (n := 4) (by omega)
    have ih := tmU_in l (t + pickF x.d 4)
    rw [tmU, List.length_cons]
    omega
theorem made_snoc : ∀ (l : List Q4) (t : Int) (x : Q4), madeU (l ++ [x]) t = madeU l t ++ [⟨(pieceF x.a x.b).1, (pieceF x.a x.b).2, pickF x.c 5 - 1, tmU l t + pickF x.d 4⟩] ∧ tmU (l ++ [x]) t = tmU l t + pickF x.d 4
  | [], t, x => ⟨rfl, rfl⟩
  | y :: l, t, x => by
    obtain ⟨h1, h2⟩ := made_snoc l (t + pickF y.d 4) x
    exact ⟨by rw [List.cons_append, madeU, h1, madeU, tmU]; rfl, by rw [List.cons_append, tmU, h2, tmU]⟩
set_option maxHeartbeats 1000000 in
theorem made_ev (x : List Q4) (hx : ∀ q ∈ x, q.ok) (hn : x.length ≤ 9223372036854775807) : Ev Tryz.prog 6 [QL x] (UPS (madeF x)) := by
  refine ev_sl (r := .new 70 4 ((madeF x).map UP)) ?_ _
  refine ev_of Tryz.func6 rfl (by kernel_rfl) mo (Nat.le_of_ble_eq_true rfl) ?_
  simp -implicitDefEqProofs (disch := omega) only [go_sem, ↓reduceIte, reduceEqDiff, reduceMul, reduceAdd, reduceDiv, Nat.reduceBEq, reduceLeDiff, reduceToNat, reduceNe, reduceEq, reduceLT, reduceLE, Int.reduceBEq, Int.reduceBNe, Tryz.ntmps6]
  refine loopC_mk (fun n E σ => ∃ i : Nat, i + n = 14 ∧ i ≤ x.length ∧ E 0 = QL x ∧ E 3 = .own 14680112 4 0 i ∧ E 4 = I (tmU (x.take i) 0) ∧ E 5 = I i ∧ σ 14680112 = some ⟨70, 4, (madeU (x.take i) 0).map UP⟩) 14 ⟨0, by omega, by omega, ?_⟩ ?_
  · simp -implicitDefEqProofs (disch := omega) only [go_sem, ↓reduceIte, reduceEqDiff, reduceMul, reduceAdd, reduceDiv, Nat.reduceBEq, reduceLeDiff, reduceToNat, reduceNe, reduceEq, reduceLT, reduceLE, Int.reduceBEq, Int.reduceBNe]
    exact ⟨rfl, rfl, rfl⟩
  rintro n E σ ⟨i, hn, hi, e0, e3, e4, e5, m3⟩
  have fin : i = 14 ∨ i = x.length → madeF x = madeU (x.take i) 0 := fun h => by
    unfold madeF
    rcases h with rfl | rfl
    · rfl
    · rw [List.take_length, List.take_of_length_le (by omega)]
  simp -implicitDefEqProofs (disch := omega) only [go_sem, ↓reduceIte, reduceEqDiff, reduceMul, reduceAdd, reduceDiv, Nat.reduceBEq, reduceLeDiff, reduceToNat, reduceNe, reduceEq, reduceLT, reduceLE, Int.reduceBEq, Int.reduceBNe, e0, e3, e4, e5, m3]
  have hlen := madeU_len (x.take i) 0
  rw [List.length_take, Nat.min_eq_left hi] at hlen
  refine branch_mk (fun hc => ?_) (fun hc => ?_)
  · simp -implicitDefEqProofs (disch := omega) only [go_sem, ↓reduceIte, reduceEqDiff, reduceMul, reduceAdd, reduceDiv, Nat.reduceBEq, reduceLeDiff, reduceToNat, reduceNe, reduceEq, reduceLT, reduceLE, Int.reduceBEq, Int.reduceBNe, e0, e3, e4, e5, m3]
    refine branch_mk (fun hc2 => ?_) (fun hc2 => ?_)
    · have hq := hx _ (gd_mem x i (by omega))
      obtain ⟨hm, htm⟩ := made_snoc (x.take i) 0 (gd x i)
      rw [← take_succ' x i (by omega)] at hm htm
      have htb := tmU_in (x.take i) 0
      have hp1 := pickF_in (c := (gd x i).d) (n := 4) (by omega)
      have hp2 := pickF_in (c := (gd x i).c) (n := 5) (by omega)
      have hlt : (x.take i).length ≤ 14 := by rw [List.length_take]; omega
      have c1 := pick23_ev (gd x i).d 4 hq.2.2.2 (by omega)
      have c2 := piece_ev (gd x i).a (gd x i).b hq.1 hq.2.1
      have c3 := pick23_ev (gd x i).c 5 hq.2.2.1 (by omega)
      generalize pickF (gd x i).d 4 = pd at *
      generalize pickF (gd x i).c 5 = pc at *
      generalize pieceF (gd x i).a (gd x i).b = pr at *
      obtain ⟨pf, pt⟩ := pr
      simp only at hm
      generalize tmU (x.take i) 0 = tm at *
      generalize madeU (x.take i) 0 = o at *
      simp -implicitDefEqProofs (disch := omega) only [go_sem, ↓reduceIte, reduceEqDiff, reduceMul, reduceAdd, reduceDiv, Nat.reduceBEq, reduceLeDiff, reduceToNat, reduceNe, reduceEq, reduceLT, reduceLE, Int.reduceBEq, Int.reduceBNe, e0, e3, e4, e5, m3]
      refine callC_at c1 ?_
      simp -implicitDefEqProofs (disch := omega) only [go_sem, ↓reduceIte, reduceEqDiff, reduceMul, reduceAdd, reduceDiv, Nat.reduceBEq, reduceLeDiff, reduceToNat, reduceNe, reduceEq, reduceLT, reduceLE, Int.reduceBEq, Int.reduceBNe, e0, e3, e4, e5, m3]
      refine callC_at c2 ?_
      simp -implicitDefEqProofs (disch := omega) only [go_sem, ↓reduceIte, reduceEqDiff, reduceMul, reduceAdd, reduceDiv, Nat.reduceBEq, reduceLeDiff, reduceToNat, reduceNe, reduceEq, reduceLT, reduceLE, Int.reduceBEq, Int.reduceBNe, e0, e3, e4, e5, m3]
      refine callC_at c3 ?_
      simp -implicitDefEqProofs (disch := omega) only [go_sem, ↓reduceIte, reduceEqDiff, reduceMul, reduceAdd, reduceDiv, Nat.reduceBEq, reduceLeDiff, reduceToNat, reduceNe, reduceEq, reduceLT, reduceLE, Int.reduceBEq, Int.reduceBNe, e0, e3, e4, e5, m3]
      refine againQ_mk (14 - (i + 1)) (by omega) ⟨i + 1, by omega, by omega, ?_⟩
      simp -implicitDefEqProofs (disch := omega) only [go_sem, ↓reduceIte, reduceEqDiff, reduceMul, reduceAdd, reduceDiv, Nat.reduceBEq, reduceLeDiff, reduceToNat, reduceNe, reduceEq, reduceLT, reduceLE, Int.reduceBEq, Int.reduceBNe, e0, e3, e4, e5, m3, htm, hm]
      rfl
    · rw [fin (.inl (by omega))]
      simp -implicitDefEqProofs (disch := omega) only [go_sem, ↓reduceIte, reduceEqDiff, reduceMul, reduceAdd, reduceDiv, Nat.reduceBEq, reduceLeDiff, reduceToNat, reduceNe, reduceEq, reduceLT, reduceLE, Int.reduceBEq, Int.reduceBNe, e0, e3, e4, e5, m3, Tryz.results6]
  · rw [fin (.inr (by omega))]
    have hlen3 : (madeU x 0).length = i := by rw [madeU_len]; omega
    simp -implicitDefEqProofs (disch := omega) only [go_sem, ↓reduceIte, reduceEqDiff, reduceMul, reduceAdd, reduceDiv, Nat.reduceBEq, reduceLeDiff, reduceToNat, reduceNe, reduceEq, reduceLT, reduceLE, Int.reduceBEq, Int.reduceBNe, e0, e3, e4, e5, m3, Tryz.results6]
end Go.Proofs.YthkihocapdfonaaGreatDoor
set_option maxRecDepth 100000
namespace Go.Proofs.YthkihocapdfonaaGreatDoor
open Go.Vai Go Go.Proofs
open Nat (reduceEqDiff reduceMul reduceAdd reduceDiv reduceLeDiff)
open Int (reduceToNat reduceNe reduceEq reduceLT reduceLE)
theorem pcsN_fuel : ∀ (m n : Nat) (a b : List Bk) (p : Int), (pcsN m a b p).length < m → m ≤ n → pcsN n a b p = pcsN m a b p
  | 0, _, _, _, _, h, _ => by cases h
  | m + 1, 0, _, _, _, _, h => by cases h
  | m + 1, n + 1, a, b, p, h, hn => by
    rw [pcsN, pcsN]
    rw [pcsN] at h
    split
    · rename_i hp
      rw [if_pos hp, List.length_cons] at h
      rw [pcsN_fuel m n _ _ _ (by omega) (by omega)]
    · rfl
theorem cmbF_at (h : Int → Int → Int) (a b : List Bk) (hl : (pcsN 20 a b 0).length < 20) : cmbF h a b = (pcsN 20 a b 0).foldl (cmbS h) [] := by
  unfold cmbF; rw [pcsN_fuel 20 100000000 a b 0 hl (by omega)]
theorem difF_at (a b : List Bk) (hl : (pcsN 20 a b 0).length < 20) : difF a b = (pcsN 20 a b 0).foldl difS [] := by
  unfold difF; rw [pcsN_fuel 20 100000000 a b 0 hl (by omega)]
def EX : List Up := [⟨100, 200, 1, 10⟩, ⟨150, 300, 2, 20⟩, ⟨160, 170, -1, 20⟩]
def M1 : List Bk := [⟨100, 200, 1⟩]
def M2 : List Bk := [⟨100, 150, 1⟩, ⟨150, 300, 2⟩]
def M3 : List Bk := [⟨100, 150, 1⟩, ⟨150, 160, 2⟩, ⟨170, 300, 2⟩]
theorem ex1 : stepU [] ⟨100, 200, 1, 10⟩ = some M1 := by
  show (if (1 : Int) = -1 then takeF [] 100 200 else giveF [] 100 200 1) = _
  rw [if_neg (by decide)]; unfold giveF
  rw [cmbF_at _ _ _ (by decide)]; decide
theorem ex2 : stepU M1 ⟨150, 300, 2, 20⟩ = some M2 := by
  show (if (2 : Int) = -1 then takeF M1 150 300 else giveF M1 150 300 2) = _
  rw [if_neg (by decide)]; unfold giveF
  rw [cmbF_at _ _ _ (by decide)]; decide
theorem ex3 : stepU M2 ⟨160, 170, -1, 20⟩ = some M3 := by
  show (if (-1 : Int) = -1 then takeF M2 160 170 else giveF M2 160 170 (-1)) = _
  rw [if_pos rfl]; unfold takeF
  rw [cmbF_at _ _ _ (by decide)]; decide
theorem exM : mapsF [] EX = [[], M1, M2, M3] := by
  unfold EX
  rw [mapsF, ex1]; simp only
  rw [mapsF, ex2]; simp only
  rw [mapsF, ex3]; simp only
  rw [mapsF]
theorem exV : validT EX = true := by
  refine validT_iff.2 ⟨by decide, by decide, ?_⟩
  rw [exM]; rfl
theorem exD : difF M1 M3 = [(150, 300)] := by
  rw [difF_at _ _ (by decide)]; decide
theorem ex_in (k : Int) (h0 : 0 ≤ k) (h3 : k ≤ 3) : inV EX k := ⟨exV, h0, h3⟩
theorem exEnc : encU ⟨100, 200, 1, 10⟩ = ⟨#[200, 1, 144, 3, 2, 20]⟩ := by decide
theorem ex_bad : validT [⟨0, 0, 0, 0⟩] = false := by
  cases h : validT [⟨0, 0, 0, 0⟩] with
  | false => rfl
  | true =>
    have h3 := (validT_iff.1 h).2.2
    have : stepU [] ⟨0, 0, 0, 0⟩ = none := by
      show (if (0 : Int) = -1 then takeF [] 0 0 else giveF [] 0 0 0) = _
      rw [if_neg (by decide)]; unfold giveF
      rw [if_neg (by decide)]
    rw [mapsF, this] at h3
    cases h3
end Go.Proofs.YthkihocapdfonaaGreatDoor
set_option maxRecDepth 100000
namespace Go.Proofs.YthkihocapdfonaaGreatDoor
open Go.Vai Go Go.Proofs
open Nat (reduceEqDiff reduceMul reduceAdd reduceDiv reduceLeDiff)
open Int (reduceToNat reduceNe reduceEq reduceLT reduceLE)
theorem example_ev : Ev Tryz.prog 36 [] (UPS EX) := by
  refine ev_sl (r := .new 70 4 (EX.map UP)) ?_ _
  refine ev_of Tryz.func36 rfl (by kernel_rfl) mo (Nat.le_of_ble_eq_true rfl) ?_
  simp -implicitDefEqProofs (disch := omega) only [go_sem, ↓reduceIte, reduceEqDiff, reduceMul, reduceAdd, reduceDiv, Nat.reduceBEq, reduceLeDiff, reduceToNat, reduceNe, reduceEq, reduceLT, reduceLE, Int.reduceBEq, Int.reduceBNe, Tryz.ntmps36, Tryz.results36]
  rfl
theorem cm3 : Ev Tryz.prog 17 [UPS EX, I 3] (.tup [BL M3, I 0]) := by
  have h := map_ev EX 3 (by decide)
  have e : mapV EX (3 : Int).toNat = M3 := by show gd (mapsF [] EX) 3 = _; rw [exM]; rfl
  rw [if_pos (ex_in 3 (by decide) (by decide)), if_pos (ex_in 3 (by decide) (by decide)), e] at h
  exact h
theorem cm4 : Ev Tryz.prog 17 [UPS EX, I 4] (.tup [BL [], I 230]) := by
  have h := map_ev EX 4 (by decide)
  have e : ¬ inV EX 4 := fun h => by have := h.2.2; revert this; decide
  rw [if_neg e, if_neg e] at h
  exact h
theorem chd (k : Nat) (hk : k ≤ 3) : Ev Tryz.prog 25 [UPS EX, I 165, I k] (.tup [I (heldV EX 165 k), I 0]) := by
  have h := held_ev EX 165 k (by decide)
  have e : inV EX k ∧ (0 : Int) ≤ 165 ∧ (165 : Int) ≤ 99999999 := ⟨ex_in k (by omega) (by omega), by decide, by decide⟩
  rw [if_pos e, if_pos e, Int.toNat_natCast] at h
  exact h
theorem cs1 : Ev Tryz.prog 27 [UPS EX, I 100, I 3] (.tup [I 1, I 0]) := by
  have h := since_ev EX 100 3 (by decide)
  have e : inV EX 3 ∧ inN 100 := ⟨ex_in 3 (by decide) (by decide), by decide⟩
  rw [if_pos e, if_pos e, show sinF EX 100 (3 : Int).toNat = 1 from by decide] at h
  exact h
theorem cs2 : Ev Tryz.prog 27 [UPS EX, I 165, I 3] (.tup [I 3, I 0]) := by
  have h := since_ev EX 165 3 (by decide)
  have e : inV EX 3 ∧ inN 165 := ⟨ex_in 3 (by decide) (by decide), by decide⟩
  rw [if_pos e, if_pos e, show sinF EX 165 (3 : Int).toNat = 3 from by decide] at h
  exact h
theorem cvn (t n : Int) (h0 : 0 ≤ t ∧ t ≤ 10000000) (hn : ((atF EX t : Nat) : Int) = n) : Ev Tryz.prog 32 [UPS EX, I t] (.tup [I n, I 0]) := by
  have h := version_ev EX t (by decide)
  have e : inT EX t 0 := ⟨h0, by decide, exV⟩
  rw [if_pos e, if_pos e, hn] at h
  exact h
theorem ckn (t lag m n : Int) (h0 : 0 ≤ t ∧ t ≤ 10000000) (h1 : 0 ≤ lag ∧ lag ≤ 100000) (hm : ((atF EX (t - lag) : Nat) : Int) = m) (hn : ((atF EX t : Nat) : Int) = n) : Ev Tryz.prog 34 [UPS EX, I t, I lag] (.tup [I m, I n, I 0]) := by
  have h := known_ev EX t lag (by decide)
  have e : inT EX t lag := ⟨h0, h1, exV⟩
  rw [if_pos e, if_pos e, if_pos e, hn, hm] at h
  exact h
theorem cbw : Ev Tryz.prog 29 [UPS EX, I 165, I 1, I 3] (.tup [SL [-1, 1, 2], I 0]) := by
  have h := between_ev EX 165 1 3 (by decide)
  have e : inB EX 165 1 3 := ⟨⟨exV, by decide⟩, by decide, by decide⟩
  rw [if_pos e, if_pos e, show betF EX 165 (1 : Int).toNat (3 : Int).toNat = [-1, 1, 2] from by decide] at h
  exact h
theorem cdf : Ev Tryz.prog 19 [UPS EX, I 1, I 3] (.tup [RL [(150, 300)], I 0]) := by
  have h := tdiffer_ev EX 1 3 (by decide)
  have e : inV EX 1 ∧ inV EX 3 := ⟨ex_in 1 (by decide) (by decide), ex_in 3 (by decide) (by decide)⟩
  have e1 : mapV EX (1 : Int).toNat = M1 := by show gd (mapsF [] EX) 1 = _; rw [exM]; rfl
  have e3 : mapV EX (3 : Int).toNat = M3 := by show gd (mapsF [] EX) 3 = _; rw [exM]; rfl
  rw [if_pos e, if_pos e, e1, e3, exD] at h
  exact h
def exH : ByteArray := chainF zero32 ⟨#[200, 1, 144, 3, 2, 20]⟩
theorem chead : Ev Tryz.prog 10 [UPS EX, I 1] (.tup [Str exH, I 0]) := by
  have h := head_ev EX 1 (by decide)
  have e : headN EX (1 : Int).toNat = exH := by
    show chainF zero32 (encU (gd EX 0)) = _
    rw [show gd EX 0 = ⟨100, 200, 1, 10⟩ from rfl, exEnc]; rfl
  rw [if_pos (ex_in 1 (by decide) (by decide)), if_pos (ex_in 1 (by decide) (by decide)), e] at h
  exact h
theorem cchain : Ev Tryz.prog 37 [Str zero32, Str ⟨#[200, 1, 144, 3, 2, 20]⟩] (Str exH) := chain_ev _ _ (by decide)
theorem exH_size : exH.size = 32 := shaF_size _
theorem cbad : Ev Tryz.prog 8 [UPS [⟨0, 0, 0, 0⟩]] (B false) := by
  have h := tvalid_ev [⟨0, 0, 0, 0⟩] (by decide)
  rw [ex_bad] at h; exact h
theorem cgood : Ev Tryz.prog 8 [UPS EX] (B true) := by
  have h := tvalid_ev EX (by decide)
  rw [exV] at h; exact h
set_option maxHeartbeats 4000000 in
theorem sane_ev : Ev Tryz.prog 5 [] (B true) := by
  have hsz := exH_size
  have cH := cchain
  have cD := chead
  generalize exH = H at *
  refine ev_of Tryz.func5 rfl (by kernel_rfl) mo (Nat.le_of_ble_eq_true rfl) ?_
  simp -implicitDefEqProofs (disch := omega) only [go_sem, ↓reduceIte, reduceEqDiff, reduceMul, reduceAdd, reduceDiv, Nat.reduceBEq, reduceLeDiff, reduceToNat, reduceNe, reduceEq, reduceLT, reduceLE, Int.reduceBEq, Int.reduceBNe, Tryz.ntmps5]
  refine callC_at example_ev ?_
  simp -implicitDefEqProofs (disch := omega) only [go_sem, ↓reduceIte, reduceEqDiff, reduceMul, reduceAdd, reduceDiv, Nat.reduceBEq, reduceLeDiff, reduceToNat, reduceNe, reduceEq, reduceLT, reduceLE, Int.reduceBEq, Int.reduceBNe]
  refine callC_at cm3 ?_
  simp -implicitDefEqProofs (disch := omega) only [go_sem, ↓reduceIte, reduceEqDiff, reduceMul, reduceAdd, reduceDiv, Nat.reduceBEq, reduceLeDiff, reduceToNat, reduceNe, reduceEq, reduceLT, reduceLE, Int.reduceBEq, Int.reduceBNe]
  refine callC_at (sameB_ev M3 M3 (by decide) (by decide)) ?_
  simp -implicitDefEqProofs (disch := omega) only [go_sem, ↓reduceIte, reduceEqDiff, reduceMul, reduceAdd, reduceDiv, Nat.reduceBEq, reduceLeDiff, reduceToNat, reduceNe, reduceEq, reduceLT, reduceLE, Int.reduceBEq, Int.reduceBNe]
  refine loopC_mk (fun n E σ => ∃ i : Nat, i + n = 4 ∧ E 1 = UPS EX ∧ E 5 = I i) 4 ⟨0, by omega, ?_⟩ ?_
  · simp -implicitDefEqProofs (disch := omega) only [go_sem, ↓reduceIte, reduceEqDiff, reduceMul, reduceAdd, reduceDiv, Nat.reduceBEq, reduceLeDiff, reduceToNat, reduceNe, reduceEq, reduceLT, reduceLE, Int.reduceBEq, Int.reduceBNe]
    rfl
  rintro n E σ ⟨i, hn, e1, e5⟩
  simp -implicitDefEqProofs (disch := omega) only [go_sem, ↓reduceIte, reduceEqDiff, reduceMul, reduceAdd, reduceDiv, Nat.reduceBEq, reduceLeDiff, reduceToNat, reduceNe, reduceEq, reduceLT, reduceLE, Int.reduceBEq, Int.reduceBNe, e1, e5]
  refine branch_mk (fun hc => ?_) (fun hc => ?_)
  · have hcases : i = 0 ∨ i = 1 ∨ i = 2 ∨ i = 3 := by omega
    simp -implicitDefEqProofs (disch := omega) only [go_sem, ↓reduceIte, reduceEqDiff, reduceMul, reduceAdd, reduceDiv, Nat.reduceBEq, reduceLeDiff, reduceToNat, reduceNe, reduceEq, reduceLT, reduceLE, Int.reduceBEq, Int.reduceBNe, e1, e5]
    refine callC_at (chd i (by omega)) ?_
    rcases hcases with rfl | rfl | rfl | rfl
    · rw [show heldV EX 165 0 = -1 from by decide]
      simp -implicitDefEqProofs (disch := omega) only [go_sem, ↓reduceIte, reduceEqDiff, reduceMul, reduceAdd, reduceDiv, Nat.reduceBEq, reduceLeDiff, reduceToNat, reduceNe, reduceEq, reduceLT, reduceLE, Int.reduceBEq, Int.reduceBNe, e1, e5]
      refine againQ_mk 3 (by omega) ⟨1, by omega, ?_⟩
      simp -implicitDefEqProofs (disch := omega) only [go_sem, ↓reduceIte, reduceEqDiff, reduceMul, reduceAdd, reduceDiv, Nat.reduceBEq, reduceLeDiff, reduceToNat, reduceNe, reduceEq, reduceLT, reduceLE, Int.reduceBEq, Int.reduceBNe, e1, e5]
      rfl
    · rw [show heldV EX 165 1 = 1 from by decide]
      simp -implicitDefEqProofs (disch := omega) only [go_sem, ↓reduceIte, reduceEqDiff, reduceMul, reduceAdd, reduceDiv, Nat.reduceBEq, reduceLeDiff, reduceToNat, reduceNe, reduceEq, reduceLT, reduceLE, Int.reduceBEq, Int.reduceBNe, e1, e5]
      refine againQ_mk 2 (by omega) ⟨2, by omega, ?_⟩
      simp -implicitDefEqProofs (disch := omega) only [go_sem, ↓reduceIte, reduceEqDiff, reduceMul, reduceAdd, reduceDiv, Nat.reduceBEq, reduceLeDiff, reduceToNat, reduceNe, reduceEq, reduceLT, reduceLE, Int.reduceBEq, Int.reduceBNe, e1, e5]
      rfl
    · rw [show heldV EX 165 2 = 2 from by decide]
      simp -implicitDefEqProofs (disch := omega) only [go_sem, ↓reduceIte, reduceEqDiff, reduceMul, reduceAdd, reduceDiv, Nat.reduceBEq, reduceLeDiff, reduceToNat, reduceNe, reduceEq, reduceLT, reduceLE, Int.reduceBEq, Int.reduceBNe, e1, e5]
      refine againQ_mk 1 (by omega) ⟨3, by omega, ?_⟩
      simp -implicitDefEqProofs (disch := omega) only [go_sem, ↓reduceIte, reduceEqDiff, reduceMul, reduceAdd, reduceDiv, Nat.reduceBEq, reduceLeDiff, reduceToNat, reduceNe, reduceEq, reduceLT, reduceLE, Int.reduceBEq, Int.reduceBNe, e1, e5]
      rfl
    · rw [show heldV EX 165 3 = -1 from by decide]
      simp -implicitDefEqProofs (disch := omega) only [go_sem, ↓reduceIte, reduceEqDiff, reduceMul, reduceAdd, reduceDiv, Nat.reduceBEq, reduceLeDiff, reduceToNat, reduceNe, reduceEq, reduceLT, reduceLE, Int.reduceBEq, Int.reduceBNe, e1, e5]
      refine againQ_mk 0 (by omega) ⟨4, by omega, ?_⟩
      simp -implicitDefEqProofs (disch := omega) only [go_sem, ↓reduceIte, reduceEqDiff, reduceMul, reduceAdd, reduceDiv, Nat.reduceBEq, reduceLeDiff, reduceToNat, reduceNe, reduceEq, reduceLT, reduceLE, Int.reduceBEq, Int.reduceBNe, e1, e5]
      rfl
  simp -implicitDefEqProofs (disch := omega) only [go_sem, ↓reduceIte, reduceEqDiff, reduceMul, reduceAdd, reduceDiv, Nat.reduceBEq, reduceLeDiff, reduceToNat, reduceNe, reduceEq, reduceLT, reduceLE, Int.reduceBEq, Int.reduceBNe, e1]
  refine callC_at cs1 ?_
  simp -implicitDefEqProofs (disch := omega) only [go_sem, ↓reduceIte, reduceEqDiff, reduceMul, reduceAdd, reduceDiv, Nat.reduceBEq, reduceLeDiff, reduceToNat, reduceNe, reduceEq, reduceLT, reduceLE, Int.reduceBEq, Int.reduceBNe, e1]
  refine callC_at cs2 ?_
  simp -implicitDefEqProofs (disch := omega) only [go_sem, ↓reduceIte, reduceEqDiff, reduceMul, reduceAdd, reduceDiv, Nat.reduceBEq, reduceLeDiff, reduceToNat, reduceNe, reduceEq, reduceLT, reduceLE, Int.reduceBEq, Int.reduceBNe, e1]
  refine callC_at (cvn 9 0 (by decide) (by decide)) ?_
  simp -implicitDefEqProofs (disch := omega) only [go_sem, ↓reduceIte, reduceEqDiff, reduceMul, reduceAdd, reduceDiv, Nat.reduceBEq, reduceLeDiff, reduceToNat, reduceNe, reduceEq, reduceLT, reduceLE, Int.reduceBEq, Int.reduceBNe, e1]
  refine callC_at (cvn 10 1 (by decide) (by decide)) ?_
  simp -implicitDefEqProofs (disch := omega) only [go_sem, ↓reduceIte, reduceEqDiff, reduceMul, reduceAdd, reduceDiv, Nat.reduceBEq, reduceLeDiff, reduceToNat, reduceNe, reduceEq, reduceLT, reduceLE, Int.reduceBEq, Int.reduceBNe, e1]
  refine callC_at (cvn 20 3 (by decide) (by decide)) ?_
  simp -implicitDefEqProofs (disch := omega) only [go_sem, ↓reduceIte, reduceEqDiff, reduceMul, reduceAdd, reduceDiv, Nat.reduceBEq, reduceLeDiff, reduceToNat, reduceNe, reduceEq, reduceLT, reduceLE, Int.reduceBEq, Int.reduceBNe, e1]
  refine callC_at (ckn 25 5 3 3 (by decide) (by decide) (by decide) (by decide)) ?_
  simp -implicitDefEqProofs (disch := omega) only [go_sem, ↓reduceIte, reduceEqDiff, reduceMul, reduceAdd, reduceDiv, Nat.reduceBEq, reduceLeDiff, reduceToNat, reduceNe, reduceEq, reduceLT, reduceLE, Int.reduceBEq, Int.reduceBNe, e1]
  refine callC_at (ckn 25 6 1 3 (by decide) (by decide) (by decide) (by decide)) ?_
  simp -implicitDefEqProofs (disch := omega) only [go_sem, ↓reduceIte, reduceEqDiff, reduceMul, reduceAdd, reduceDiv, Nat.reduceBEq, reduceLeDiff, reduceToNat, reduceNe, reduceEq, reduceLT, reduceLE, Int.reduceBEq, Int.reduceBNe, e1]
  refine callC_at cbw ?_
  simp -implicitDefEqProofs (disch := omega) only [go_sem, ↓reduceIte, reduceEqDiff, reduceMul, reduceAdd, reduceDiv, Nat.reduceBEq, reduceLeDiff, reduceToNat, reduceNe, reduceEq, reduceLT, reduceLE, Int.reduceBEq, Int.reduceBNe, e1]
  refine callC_at cdf ?_
  simp -implicitDefEqProofs (disch := omega) only [go_sem, ↓reduceIte, reduceEqDiff, reduceMul, reduceAdd, reduceDiv, Nat.reduceBEq, reduceLeDiff, reduceToNat, reduceNe, reduceEq, reduceLT, reduceLE, Int.reduceBEq, Int.reduceBNe, e1]
  refine callC_at cD ?_
  simp -implicitDefEqProofs (disch := omega) only [go_sem, ↓reduceIte, reduceEqDiff, reduceMul, reduceAdd, reduceDiv, Nat.reduceBEq, reduceLeDiff, reduceToNat, reduceNe, reduceEq, reduceLT, reduceLE, Int.reduceBEq, Int.reduceBNe, e1]
  refine toStr_mk (List.replicate 32 0) (by simp -implicitDefEqProofs (disch := omega) only [go_sem, ↓reduceIte, reduceEqDiff, reduceMul, reduceAdd, reduceDiv, Nat.reduceBEq, reduceLeDiff, reduceToNat, reduceNe, reduceEq, reduceLT, reduceLE, Int.reduceBEq, Int.reduceBNe]; rfl) (by intro b; simp -implicitDefEqProofs (disch := omega) only [go_sem, ↓reduceIte, reduceEqDiff, reduceMul, reduceAdd, reduceDiv, Nat.reduceBEq, reduceLeDiff, reduceToNat, reduceNe, reduceEq, reduceLT, reduceLE, Int.reduceBEq, Int.reduceBNe]; intro e; cases e) (e := 5) rfl rfl rfl ?_
  rw [z32]
  simp -implicitDefEqProofs (disch := omega) only [go_sem, ↓reduceIte, reduceEqDiff, reduceMul, reduceAdd, reduceDiv, Nat.reduceBEq, reduceLeDiff, reduceToNat, reduceNe, reduceEq, reduceLT, reduceLE, Int.reduceBEq, Int.reduceBNe, e1]
  refine callC_at cH ?_
  simp -implicitDefEqProofs (disch := omega) only [go_sem, ↓reduceIte, reduceEqDiff, reduceMul, reduceAdd, reduceDiv, Nat.reduceBEq, reduceLeDiff, reduceToNat, reduceNe, reduceEq, reduceLT, reduceLE, Int.reduceBEq, Int.reduceBNe, e1]
  refine callC_at cm4 ?_
  simp -implicitDefEqProofs (disch := omega) only [go_sem, ↓reduceIte, reduceEqDiff, reduceMul, reduceAdd, reduceDiv, Nat.reduceBEq, reduceLeDiff, reduceToNat, reduceNe, reduceEq, reduceLT, reduceLE, Int.reduceBEq, Int.reduceBNe, e1]
  refine callC_at (sameI_ev [-1, 1, 2] [-1, 1, 2] (by decide) (by decide)) ?_
  simp -implicitDefEqProofs (disch := omega) only [go_sem, ↓reduceIte, reduceEqDiff, reduceMul, reduceAdd, reduceDiv, Nat.reduceBEq, reduceLeDiff, reduceToNat, reduceNe, reduceEq, reduceLT, reduceLE, Int.reduceBEq, Int.reduceBNe, e1]
  refine callC_at (sameR_ev [(150, 300)] [(150, 300)] (by decide) (by decide)) ?_
  simp -implicitDefEqProofs (disch := omega) only [go_sem, ↓reduceIte, reduceEqDiff, reduceMul, reduceAdd, reduceDiv, Nat.reduceBEq, reduceLeDiff, reduceToNat, reduceNe, reduceEq, reduceLT, reduceLE, Int.reduceBEq, Int.reduceBNe, e1]
  refine branch_l (by omega) ?_
  simp -implicitDefEqProofs (disch := omega) only [go_sem, ↓reduceIte, reduceEqDiff, reduceMul, reduceAdd, reduceDiv, Nat.reduceBEq, reduceLeDiff, reduceToNat, reduceNe, reduceEq, reduceLT, reduceLE, Int.reduceBEq, Int.reduceBNe, e1]
  refine callC_at cgood ?_
  simp -implicitDefEqProofs (disch := omega) only [go_sem, ↓reduceIte, reduceEqDiff, reduceMul, reduceAdd, reduceDiv, Nat.reduceBEq, reduceLeDiff, reduceToNat, reduceNe, reduceEq, reduceLT, reduceLE, Int.reduceBEq, Int.reduceBNe, e1, hsz]
  refine callC_at cbad ?_
  simp -implicitDefEqProofs (disch := omega) only [go_sem, ↓reduceIte, reduceEqDiff, reduceMul, reduceAdd, reduceDiv, Nat.reduceBEq, reduceLeDiff, reduceToNat, reduceNe, reduceEq, reduceLT, reduceLE, Int.reduceBEq, Int.reduceBNe, Tryz.results5]
end Go.Proofs.YthkihocapdfonaaGreatDoor
set_option maxRecDepth 100000
namespace Go.Proofs.YthkihocapdfonaaGreatDoor
open Go.Vai Go Go.Proofs
open Nat (reduceEqDiff reduceMul reduceAdd reduceDiv reduceLeDiff)
open Int (reduceToNat reduceNe reduceEq reduceLT reduceLE)
section
variable {l : List Up} (h : validT l = true)
include h
theorem len40 : l.length ≤ 40 := (validT_iff.1 h).1
theorem head_at {v : Nat} (hv : v ≤ l.length) : Ev Tryz.prog 10 [UPS l, I v] (.tup [Str (headN l v), I 0]) := by
  have hm := head_ev l v (by have := len40 h; omega)
  have e : inV l v := ⟨h, by omega, by omega⟩
  rw [if_pos e, if_pos e, Int.toNat_natCast] at hm
  exact hm
end
end Go.Proofs.YthkihocapdfonaaGreatDoor
set_option maxRecDepth 100000
namespace Go.Vai
open Go.RowKit Go.ChangeShapes Go.WideShapes
theorem liftedG {H : Type} {enc : TypeId × Value → H} {C : Checked} {os : Os} {f : FuncId} {fn : Func} {s : ChangeSpec} {conds : List PathCond} {fresh handsOn : Bool} {tb : TypeId} {ps : List (AV → Prop)} {X : World → Array Value → Prop}
    (hX : ∀ (w w' : World) (args : Array Value), w.heap = w'.heap → X w args → X w' args)
    (own : ownKnob C.prog.godebug = none) (started : os.Started) (noInit : C.prog.inits.idxOf? f = none) (hfn : C.prog.funcs[f]? = some fn)
    (witness : ∃ (w : World) (tape : Tape) (i : Input), w.os = os ∧ (w.forCall tape i).Shaped C.prog ∧ i.vars = [] ∧ Input.okWide C.prog (w.forCall tape i) .any w.heap.size f i ∧
      ((s.pre enc C.prog fn conds false (w.forCall tape i).memory i.args ∧ X (w.forCall tape i).memory i.args) ∧ sizedMet enc C.prog fn (OpenSpec.ofChange s) false (w.forCall tape i).memory i.args) ∧ ({} : Assume).holds C.prog (lone (Frame.enter C.prog f i.args .normal) [] (w.forCall tape i)))
    (hl : laidOutB C.prog = true) (hr : (fn.params.toList.all fun t => C.prog.readableRec t && decide (t < C.prog.types.size)) = true) (hrt : fn.resultTypes = #[tb]) (htb : C.prog.underlying tb = some .bool) (hvars : s.vars = [])
    (hs : ∀ ds : List (DataW H), ds.length = fn.params.size → s.fn H ds = { results := [.lit (.bool true)], args := ds })
    (hop : ∀ w : World, OpensAll C.prog enc w fn.params.toList ps) (hev : ∀ avs, AllP ps avs → Ev C.prog f avs (.v (.bool true))) (hgt : ∀ (w : World) (args : Array Value), X w args → GOK w (Here w)) :
    ReturnsInHanded {} C os f .any (fun w args => (s.pre enc C.prog fn conds false w args ∧ X w args) ∧ sizedMet enc C.prog fn (OpenSpec.ofChange s) false w args) (s.post enc C.prog fn false fresh handsOn false) := by
  refine returnsInHanded_of_change_and (C := C) (X := X) hX own started noInit hfn witness ?_
  intro W base args ds gs before hval hW _ _ hL _
  obtain ⟨p, q, hA, hV, e, hfz, hnd⟩ := hW
  obtain ⟨avs, has, hrep⟩ := opens_args (hop W) hA (fun j t v hj hv => hval j t v (by simpa using hj) (by simpa using hv))
  have := (hev avs has avs _ ⟨rfl, rfl⟩).2 W (Here W) args.toList (fun b hb => hb) (hgt W args hL) hrep
  refine (this.mono ?_)
  rintro e' W' ⟨y, rfl, hx, Im', _, _, hR⟩
  obtain ⟨ob, h1, _⟩ := hR
  have hy : y = .bool true := by
    unfold R1 at h1
    cases h1.2 with | v => rfl
  subst hy
  exact ⟨_, rfl, post_true hl (fun t ht => by simpa using List.all_eq_true.1 hr t ht) hrt htb hvars hs ⟨p, q, hA, hV, e, hfz, hnd⟩ hx⟩
end Go.Vai
namespace Go.Proofs.YthkihocapdfonaaGreatDoor
open Go.Vai Go Go.Proofs Go.RowKit
open Nat (reduceEqDiff reduceMul reduceAdd reduceDiv reduceLeDiff)
open Int (reduceToNat reduceNe reduceEq reduceLT reduceLE)
theorem own3 : ownKnob Tryz.checked.prog.godebug = none := by kernel_rfl
theorem laidOut3 : laidOutB Tryz.checked.prog = true := by kernel_rfl
abbrev laid3 : List (String × DataW Unit) := [("dialtone/digest.round", Rows.laid_dialtone_digest_round)]
theorem gRound : Tryz.prog.globalNamed "dialtone/digest.round" = some 0 := by kernel_rfl
def roundL : List Int := (gtab.headD (0, [])).2.map fun v => match v with | .int _ n => n | _ => 0
theorem gtab_eq : gtab = [(0, roundL.map (Value.int .u32))] := by kernel_rfl
theorem laid_eq : (Rows.laid_dialtone_digest_round : DataW Unit) = .agg (roundL.map fun n => .lit (.int .u32 n)) := by kernel_rfl
theorem round_cells {W : World} (h : laidMetH Tryz.prog laid3 W) : ∀ (i : Nat) (v : Value), (roundL.map (Value.int .u32))[i]? = some v → W.cell? ⟨0, i, none⟩ = some v := by
  rw [MakeChecks.laidMetH_plain _ _ _ (by kernel_rfl)] at h
  obtain ⟨ps, ⟨g0, t0, cs0, f0, p0, q0, hg0, ht0, hv0, hd0, _, _⟩, _, _⟩ := h
  obtain rfl := Option.some.inj (gRound.symm.trans hg0)
  have tR : (Tryz.prog.globals[0]?).map (·.type) = some t0 := ht0
  intro i v hv
  rw [World.var?_cell hg0 hv0 i]
  have t79 : t0 = 168 := by
    have : (Tryz.prog.globals[0]?).map (·.type) = some 168 := by kernel_rfl
    exact Option.some.inj (tR.symm.trans this)
  subst t79
  obtain ⟨xs, m1, rfl, hx1, hlen, hn, hel⟩ := DataW.trod_array (n := 64) (e := 99) (by kernel_rfl) hd0
  have c1 : Tryz.prog.cellsOf 99 = 1 := by kernel_rfl
  simp only [Prod.mk.injEq] at hx1
  have hx := hx1.1
  rw [laid_eq] at hx
  simp only [DataW.agg.injEq] at hx
  have hrl : roundL.length = 64 := by kernel_rfl
  have hi : i < 64 := by
    have := (List.getElem?_eq_some_iff.1 hv).1
    rw [List.length_map, hrl] at this; exact this
  have h1 := hel i hi
  rw [c1, Nat.mul_one] at h1
  cases hxi : xs[i]? with
  | none => rw [List.getElem?_eq_none_iff] at hxi; omega
  | some x =>
    rw [hxi] at h1
    obtain ⟨n, e1, e2, _⟩ := DataW.trod_int (k := .u32) (by kernel_rfl) h1
    have h2 : (xs.map (·.1))[i]? = some x.1 := by rw [List.getElem?_map, hxi]; rfl
    rw [← hx, List.getElem?_map] at h2
    obtain ⟨r, hr, hr2⟩ := Option.map_eq_some_iff.1 h2
    rw [List.getElem?_map, hr] at hv
    have hv := Option.some.inj hv
    rw [e2] at hr2
    simp only [DataW.lit.injEq, Lit.int.injEq, true_and] at hr2
    have h3 : (cs0.toList.drop i)[0]? = some (.int .u32 n) := by
      have : ((cs0.toList.drop i).take 1)[0]? = some (.int .u32 n) := by rw [e1]; rfl
      rwa [List.getElem?_take, if_pos (by omega)] at this
    rw [List.getElem?_drop, Nat.add_zero] at h3
    rw [← Array.getElem?_toList, h3, ← hv, hr2]
theorem gok {W : World} (h : laidMetH Tryz.prog laid3 W) : GOK W (Here W) := by
  intro p hp
  rw [gtab_eq, List.mem_singleton] at hp
  subst hp
  have hc := round_cells h
  refine ⟨?_, fun i v hv => ⟨hc i v hv, ?_⟩⟩
  · have h0 : (roundL.map (Value.int .u32))[0]? = some (.int .u32 (gd roundL 0)) := by kernel_rfl
    have := hc 0 _ h0
    show 0 < W.heap.size
    rcases Nat.eq_zero_or_pos W.heap.size with h1 | h1
    · have : W.heap[0]? = none := Array.getElem?_eq_none (by omega)
      simp [World.cell?, this] at *
    · exact h1
  · obtain ⟨r, _, rfl⟩ := List.mem_map.1 (List.mem_of_getElem? hv)
    rfl
theorem door_met (os : Os) (args : Array Value) : laidMetH Tryz.prog laid3 ((World.doorLaid Tryz.prog 14 os).forCall (fun _ _ => 0) ⟨#[], args, []⟩).memory :=
  laidMetH_of_parts3 (fuel := 8) (laidMet_of_run' 8 (by kernel_rfl) (by kernel_rfl)) (by kernel_rfl) (by kernel_rfl)
section
variable {H : Type} {enc : TypeId × Value → H} {w : World}
def OI (a : AV) : Prop := ∃ n, R64 n ∧ a = I n
theorem wf64 {n : Int} : (Lit.int .i64 n).wf = true ↔ R64 n := by
  have h1 : IntKind.i64.min = -9223372036854775808 := by decide
  have h2 : IntKind.i64.max = 9223372036854775807 := by decide
  simp [Lit.wf, R64, h1, h2]
theorem o_int {t : TypeId} (ht : Tryz.prog.underlying t = some (.int .i64)) : Opens Tryz.prog enc w t OI :=
  (opens_int ht).mono (fun a ⟨n, h, e⟩ => ⟨n, wf64.1 h, e⟩) fun a ⟨n, h, e⟩ => ⟨n, wf64.2 h, e⟩
def OQ (a : AV) : Prop := ∃ l : List Q4, l.length ≤ 9223372036854775807 ∧ (∀ x ∈ l, x.ok) ∧ a = QL l
def OQ1 (a : AV) : Prop := ∃ x : Q4, x.ok ∧ a = QP x
theorem o_four : Opens Tryz.prog enc w 71 OQ1 :=
  (opens_array (T := Int) (q := R64) (f := I) (e := 3) (n := 4) (sz := 1) (by kernel_rfl) (by kernel_rfl) (by kernel_rfl) (o_int (by kernel_rfl))).mono
    (fun a ⟨l, h, h1, e⟩ => by
      match l, h with
      | [x, y, z, u], _ => exact ⟨⟨x, y, z, u⟩, ⟨h1 x (by simp), h1 y (by simp), h1 z (by simp), h1 u (by simp)⟩, e⟩)
    fun a ⟨x, h, e⟩ => ⟨[x.a, x.b, x.c, x.d], rfl, by obtain ⟨h1, h2, h3, h4⟩ := h; simp [h1, h2, h3, h4], e⟩
theorem o_fours : Opens Tryz.prog enc w 22 OQ :=
  (opens_slice (T := Q4) (q := Q4.ok) (f := QP) (e := 71) (sz := 4) (by kernel_rfl) (by kernel_rfl) (by decide) o_four).mono
    (fun a ⟨l, h, h1, e⟩ => ⟨l, h, h1, e⟩) fun a ⟨l, h, h1, e⟩ => ⟨l, h, h1, e⟩
end
end Go.Proofs.YthkihocapdfonaaGreatDoor
set_option maxRecDepth 100000
namespace Go.Proofs.YthkihocapdfonaaGreatDoor
open Go.Vai Go Go.Proofs Go.RowKit
open Nat (reduceEqDiff reduceMul reduceAdd reduceDiv reduceLeDiff)
open Int (reduceToNat reduceNe reduceEq reduceLT reduceLE)
section
variable {H : Type} {enc : TypeId × Value → H} {w : World}
def OT (a : AV) : Prop := ∃ x y z : Int, R64 x ∧ R64 y ∧ R64 z ∧ a = .agg [I x, I y, I z]
theorem o_three : Opens Tryz.prog enc w 23 OT :=
  (opens_array (T := Int) (q := R64) (f := I) (e := 3) (n := 3) (sz := 1) (by kernel_rfl) (by kernel_rfl) (by kernel_rfl) (o_int (by kernel_rfl))).mono
    (fun a ⟨l, h, h1, e⟩ => by
      match l, h with
      | [x, y, z], _ => exact ⟨x, y, z, h1 x (by simp), h1 y (by simp), h1 z (by simp), e⟩)
    fun a ⟨x, y, z, h1, h2, h3, e⟩ => ⟨[x, y, z], rfl, by simp [h1, h2, h3], e⟩
end
end Go.Proofs.YthkihocapdfonaaGreatDoor
set_option maxRecDepth 100000
namespace Go.Proofs.YthkihocapdfonaaGreatDoor
open Go.Vai Go Go.Proofs
open Nat (reduceEqDiff reduceMul reduceAdd reduceDiv reduceLeDiff)
open Int (reduceToNat reduceNe reduceEq reduceLT reduceLE)
abbrev SLs (l : List ByteArray) : AV := .sl 1 (l.map Str)
section
variable (p : Nat → Bool) (l : List ByteArray)
@[go_sem] theorem namesL_Str : AV.namesL p (l.map Str) = false := namesL_map p l Str fun _ => rfl
@[go_sem] theorem flatL_Str : AV.flatL (l.map Str) = true := flatL_map l Str fun _ => rfl
@[go_sem] theorem allOK_Str : allOK 1 (l.map Str) = true := allOK_map 1 l Str fun _ => ⟨rfl, rfl⟩
@[go_sem] theorem append_Str (x : ByteArray) : l.map Str ++ [.v (.string x)] = (l ++ [x]).map Str := by simp
end
theorem fold32 : ∀ (l : List ByteArray) (h : ByteArray), h.size = 32 → (l.foldl chainF h).size = 32
  | [], _, h => h
  | x :: l, h, _ => by rw [List.foldl_cons]; exact fold32 l _ (shaF_size _)
theorem chainR_ev (a b : ByteArray) (hl : a.size + b.size ≤ 99999999) : Ev Tryz.prog 67 [Str a, Str b] (Str (chainF a b)) := by
  refine ev_of Tryz.func67 rfl (by kernel_rfl) mo (Nat.le_of_ble_eq_true rfl) ?_
  have hz : (#[2] : Array UInt8).size = 1 := rfl
  simp -implicitDefEqProofs (disch := omega) only [go_sem, ↓reduceIte, reduceEqDiff, reduceMul, reduceAdd, reduceDiv, Nat.reduceBEq, reduceLeDiff, reduceToNat, reduceNe, reduceEq, reduceLT, reduceLE, Int.reduceBEq, Int.reduceBNe, Tryz.ntmps67, hz]
  refine callC_at (sumR_ev ((⟨#[2]⟩ : ByteArray) ++ a ++ b) ?_) ?_
  · simp only [ByteArray.size_append]; show 1 + _ + _ ≤ _; omega
  simp -implicitDefEqProofs (disch := omega) only [go_sem, ↓reduceIte, reduceEqDiff, reduceMul, reduceAdd, reduceDiv, Nat.reduceBEq, reduceLeDiff, reduceToNat, reduceNe, reduceEq, reduceLT, reduceLE, Int.reduceBEq, Int.reduceBNe, Tryz.results67, chainF, ByteArray.append_assoc]
theorem encodeR_ev (u : Up) (hu : u.nb) : Ev Tryz.prog 66 [UP u] (Str (encU u)) := by
  refine ev_of Tryz.func66 rfl (by kernel_rfl) mo (Nat.le_of_ble_eq_true rfl) ?_
  simp -implicitDefEqProofs (disch := omega) only [go_sem, ↓reduceIte, reduceEqDiff, reduceMul, reduceAdd, reduceDiv, Nat.reduceBEq, reduceLeDiff, reduceToNat, reduceNe, reduceEq, reduceLT, reduceLE, Int.reduceBEq, Int.reduceBNe, Tryz.ntmps66]
  obtain ⟨h1, h2, h3, h4⟩ := hu
  have hall : ∀ n ∈ [u.f, u.t, u.c, u.a], Nb n := by
    intro n hn
    simp only [List.mem_cons, List.not_mem_nil, or_false] at hn
    rcases hn with rfl | rfl | rfl | rfl <;> assumption
  have henc : numS [u.f, u.t, u.c, u.a] = encU u := rfl
  have hsz := numS_size
  obtain ⟨L, hL⟩ : ∃ L, [u.f, u.t, u.c, u.a] = L := ⟨_, rfl⟩
  have hL4 : L.length = 4 := by rw [← hL]; rfl
  rw [hL] at hall henc
  refine loopC_mk (fun k E σ => ∃ i : Nat, i + k = 4 ∧ E 3 = .own 140509472 1 0 4 ∧ E 4 = Str (numS (L.take i)) ∧ E 5 = I i ∧ σ 140509472 = some ⟨3, 1, L.map I⟩) 4 ⟨0, by omega, ?_⟩ ?_
  · simp -implicitDefEqProofs (disch := omega) only [go_sem, ↓reduceIte, reduceEqDiff, reduceMul, reduceAdd, reduceDiv, Nat.reduceBEq, reduceLeDiff, reduceToNat, reduceNe, reduceEq, reduceLT, reduceLE, Int.reduceBEq, Int.reduceBNe, ← hL, List.map_cons, List.map_nil]
    exact ⟨rfl, rfl⟩
  rintro k E σ ⟨i, hk, e3, e4, e5, s3⟩
  simp -implicitDefEqProofs (disch := omega) only [go_sem, ↓reduceIte, reduceEqDiff, reduceMul, reduceAdd, reduceDiv, Nat.reduceBEq, reduceLeDiff, reduceToNat, reduceNe, reduceEq, reduceLT, reduceLE, Int.reduceBEq, Int.reduceBNe, e3, e4, e5, s3]
  refine branch_mk (fun hc => ?_) (fun hc => ?_)
  · have hn := hall (gd L i) (gd_mem L i (by omega))
    have hnx : numS (L.take (i + 1)) = numS (L.take i) ++ viS (gd L i) := by rw [take_succ' L i (by omega), numS_append]
    have hs1 := numS_size (L.take i)
    have hs2 := viS_size (gd L i)
    rw [List.length_take] at hs1
    simp -implicitDefEqProofs (disch := omega) only [go_sem, ↓reduceIte, reduceEqDiff, reduceMul, reduceAdd, reduceDiv, Nat.reduceBEq, reduceLeDiff, reduceToNat, reduceNe, reduceEq, reduceLT, reduceLE, Int.reduceBEq, Int.reduceBNe, e3, e4, e5, s3, hL4]
    refine callC_at (putIntR_ev (gd L i) hn.1 hn.2) ?_
    simp -implicitDefEqProofs (disch := omega) only [go_sem, ↓reduceIte, reduceEqDiff, reduceMul, reduceAdd, reduceDiv, Nat.reduceBEq, reduceLeDiff, reduceToNat, reduceNe, reduceEq, reduceLT, reduceLE, Int.reduceBEq, Int.reduceBNe, e3, e4, e5, s3, hL4]
    refine againQ_mk (4 - (i + 1)) (by omega) ⟨i + 1, by omega, ?_⟩
    simp -implicitDefEqProofs (disch := omega) only [go_sem, ↓reduceIte, reduceEqDiff, reduceMul, reduceAdd, reduceDiv, Nat.reduceBEq, reduceLeDiff, reduceToNat, reduceNe, reduceEq, reduceLT, reduceLE, Int.reduceBEq, Int.reduceBNe, e3, e4, e5, s3, hL4, hnx]
    rfl
  · obtain rfl : i = 4 := by omega
    have ht : L.take 4 = L := by rw [← hL4]; exact List.take_length
    rw [ht, henc] at e4
    simp -implicitDefEqProofs (disch := omega) only [go_sem, ↓reduceIte, reduceEqDiff, reduceMul, reduceAdd, reduceDiv, Nat.reduceBEq, reduceLeDiff, reduceToNat, reduceNe, reduceEq, reduceLT, reduceLE, Int.reduceBEq, Int.reduceBNe, e4, Tryz.results66]
theorem encodingsR_ev (l : List Up) (hl : l.length ≤ 1000) (hu : ∀ u ∈ l, u.nb) : Ev Tryz.prog 44 [UPS l] (SLs (l.map encU)) := by
  refine ev_sl (r := .new 9 1 ((l.map encU).map Str)) ?_ _
  refine ev_of Tryz.func44 rfl (by kernel_rfl) mo (Nat.le_of_ble_eq_true rfl) ?_
  simp -implicitDefEqProofs (disch := omega) only [go_sem, ↓reduceIte, reduceEqDiff, reduceMul, reduceAdd, reduceDiv, Nat.reduceBEq, reduceLeDiff, reduceToNat, reduceNe, reduceEq, reduceLT, reduceLE, Int.reduceBEq, Int.reduceBNe, Tryz.ntmps44]
  refine loopC_mk (fun k E σ => ∃ i : Nat, i + k = l.length ∧ E 0 = UPS l ∧ E 3 = .own 94371888 1 0 i ∧ E 4 = I i ∧ σ 94371888 = some ⟨9, 1, ((l.take i).map encU).map Str⟩) l.length ⟨0, by omega, ?_⟩ ?_
  · simp -implicitDefEqProofs (disch := omega) only [go_sem, ↓reduceIte, reduceEqDiff, reduceMul, reduceAdd, reduceDiv, Nat.reduceBEq, reduceLeDiff, reduceToNat, reduceNe, reduceEq, reduceLT, reduceLE, Int.reduceBEq, Int.reduceBNe]
    simp
  rintro k E σ ⟨i, hk, e0, e3, e4, s3⟩
  simp -implicitDefEqProofs (disch := omega) only [go_sem, ↓reduceIte, reduceEqDiff, reduceMul, reduceAdd, reduceDiv, Nat.reduceBEq, reduceLeDiff, reduceToNat, reduceNe, reduceEq, reduceLT, reduceLE, Int.reduceBEq, Int.reduceBNe, e0, e3, e4, s3]
  refine branch_mk (fun hc => ?_) (fun hc => ?_)
  · have hlt : ((l.take i).map encU).length = i := by rw [List.length_map, List.length_take]; omega
    have hs : (l.take i).map encU ++ [encU (gd l i)] = (l.take (i + 1)).map encU := by rw [take_succ' l i (by omega), List.map_append]; rfl
    have hen := encodeR_ev (gd l i) (hu _ (gd_mem l i (by omega)))
    obtain ⟨q', hq'⟩ : ∃ q', (l.take (i + 1)).map encU = q' := ⟨_, rfl⟩
    rw [hq'] at hs
    generalize (l.take i).map encU = q at *
    simp -implicitDefEqProofs (disch := omega) only [go_sem, ↓reduceIte, reduceEqDiff, reduceMul, reduceAdd, reduceDiv, Nat.reduceBEq, reduceLeDiff, reduceToNat, reduceNe, reduceEq, reduceLT, reduceLE, Int.reduceBEq, Int.reduceBNe, e0, e3, e4, s3]
    refine callC_at hen ?_
    simp -implicitDefEqProofs (disch := omega) only [go_sem, ↓reduceIte, reduceEqDiff, reduceMul, reduceAdd, reduceDiv, Nat.reduceBEq, reduceLeDiff, reduceToNat, reduceNe, reduceEq, reduceLT, reduceLE, Int.reduceBEq, Int.reduceBNe, e0, e3, e4, s3, hlt]
    refine againQ_mk (l.length - (i + 1)) (by omega) ⟨i + 1, by omega, ?_⟩
    simp -implicitDefEqProofs (disch := omega) only [go_sem, ↓reduceIte, reduceEqDiff, reduceMul, reduceAdd, reduceDiv, Nat.reduceBEq, reduceLeDiff, reduceToNat, reduceNe, reduceEq, reduceLT, reduceLE, Int.reduceBEq, Int.reduceBNe, e0, e3, e4, s3, hlt, hs]
    rw [hq']
    exact ⟨rfl, rfl⟩
  · obtain rfl : i = l.length := by omega
    rw [List.take_length] at s3
    simp -implicitDefEqProofs (disch := omega) only [go_sem, ↓reduceIte, reduceEqDiff, reduceMul, reduceAdd, reduceDiv, Nat.reduceBEq, reduceLeDiff, reduceToNat, reduceNe, reduceEq, reduceLT, reduceLE, Int.reduceBEq, Int.reduceBNe, e0, e3, e4, s3, Tryz.results44]
theorem headR_ev (l : List ByteArray) (hl : l.length ≤ 1000) (hs : ∀ s ∈ l, s.size ≤ 1000) : Ev Tryz.prog 45 [SLs l] (Str (l.foldl chainF zero32)) := by
  refine ev_of Tryz.func45 rfl (by kernel_rfl) mo (Nat.le_of_ble_eq_true rfl) ?_
  simp -implicitDefEqProofs (disch := omega) only [go_sem, ↓reduceIte, reduceEqDiff, reduceMul, reduceAdd, reduceDiv, Nat.reduceBEq, reduceLeDiff, reduceToNat, reduceNe, reduceEq, reduceLT, reduceLE, Int.reduceBEq, Int.reduceBNe, Tryz.ntmps45]
  refine toStr_mk (List.replicate 32 0) (by simp -implicitDefEqProofs (disch := omega) only [go_sem, ↓reduceIte, reduceEqDiff, reduceMul, reduceAdd, reduceDiv, Nat.reduceBEq, reduceLeDiff, reduceToNat, reduceNe, reduceEq, reduceLT, reduceLE, Int.reduceBEq, Int.reduceBNe]; rfl) (by intro b; simp -implicitDefEqProofs (disch := omega) only [go_sem, ↓reduceIte, reduceEqDiff, reduceMul, reduceAdd, reduceDiv, Nat.reduceBEq, reduceLeDiff, reduceToNat, reduceNe, reduceEq, reduceLT, reduceLE, Int.reduceBEq, Int.reduceBNe]; intro e; cases e) (e := 5) rfl rfl rfl ?_
  rw [z32]
  simp -implicitDefEqProofs (disch := omega) only [go_sem, ↓reduceIte, reduceEqDiff, reduceMul, reduceAdd, reduceDiv, Nat.reduceBEq, reduceLeDiff, reduceToNat, reduceNe, reduceEq, reduceLT, reduceLE, Int.reduceBEq, Int.reduceBNe]
  have h32 : ∀ i, ((l.take i).foldl chainF zero32).size = 32 := fun i => fold32 _ _ (by unfold zero32; decide)
  refine loopC_mk (fun k E σ => ∃ i : Nat, i + k = l.length ∧ E 0 = SLs l ∧ E 3 = Str ((l.take i).foldl chainF zero32) ∧ E 4 = I i) l.length ⟨0, by omega, ?_⟩ ?_
  · simp -implicitDefEqProofs (disch := omega) only [go_sem, ↓reduceIte, reduceEqDiff, reduceMul, reduceAdd, reduceDiv, Nat.reduceBEq, reduceLeDiff, reduceToNat, reduceNe, reduceEq, reduceLT, reduceLE, Int.reduceBEq, Int.reduceBNe]
    exact ⟨rfl, rfl⟩
  rintro k E σ ⟨i, hk, e0, e3, e4⟩
  have hi32 := h32 i
  simp -implicitDefEqProofs (disch := omega) only [go_sem, ↓reduceIte, reduceEqDiff, reduceMul, reduceAdd, reduceDiv, Nat.reduceBEq, reduceLeDiff, reduceToNat, reduceNe, reduceEq, reduceLT, reduceLE, Int.reduceBEq, Int.reduceBNe, e0, e3, e4]
  refine branch_mk (fun hc => ?_) (fun hc => ?_)
  · have hx : (l.take (i + 1)).foldl chainF zero32 = chainF ((l.take i).foldl chainF zero32) (gd l i) := by rw [take_succ' l i (by omega), List.foldl_append]; rfl
    generalize (l.take i).foldl chainF zero32 = H at *
    have hsz := hs _ (gd_mem l i (by omega))
    simp -implicitDefEqProofs (disch := omega) only [go_sem, ↓reduceIte, reduceEqDiff, reduceMul, reduceAdd, reduceDiv, Nat.reduceBEq, reduceLeDiff, reduceToNat, reduceNe, reduceEq, reduceLT, reduceLE, Int.reduceBEq, Int.reduceBNe, e0, e3, e4]
    refine callC_at (chainR_ev H (gd l i) (by omega)) ?_
    simp -implicitDefEqProofs (disch := omega) only [go_sem, ↓reduceIte, reduceEqDiff, reduceMul, reduceAdd, reduceDiv, Nat.reduceBEq, reduceLeDiff, reduceToNat, reduceNe, reduceEq, reduceLT, reduceLE, Int.reduceBEq, Int.reduceBNe, e0, e3, e4]
    refine againQ_mk (l.length - (i + 1)) (by omega) ⟨i + 1, by omega, ?_⟩
    simp -implicitDefEqProofs (disch := omega) only [go_sem, ↓reduceIte, reduceEqDiff, reduceMul, reduceAdd, reduceDiv, Nat.reduceBEq, reduceLeDiff, reduceToNat, reduceNe, reduceEq, reduceLT, reduceLE, Int.reduceBEq, Int.reduceBNe, e0, e3, e4, hx]
    rfl
  · obtain rfl : i = l.length := by omega
    rw [List.take_length] at e3
    simp -implicitDefEqProofs (disch := omega) only [go_sem, ↓reduceIte, reduceEqDiff, reduceMul, reduceAdd, reduceDiv, Nat.reduceBEq, reduceLeDiff, reduceToNat, reduceNe, reduceEq, reduceLT, reduceLE, Int.reduceBEq, Int.reduceBNe, e3, Tryz.results45]
theorem headF_eq (l : List Up) : ∀ v, v ≤ l.length → headN l v = ((l.take v).map encU).foldl chainF zero32
  | 0, _ => rfl
  | v + 1, h => by rw [headN, headF_eq l v (by omega), take_succ' l v (by omega), List.map_append, List.foldl_append]; rfl
end Go.Proofs.YthkihocapdfonaaGreatDoor
set_option maxRecDepth 100000
namespace Go.Proofs.YthkihocapdfonaaGreatDoor
open Go.Vai Go Go.Proofs
open Nat (reduceEqDiff reduceMul reduceAdd reduceDiv reduceLeDiff)
open Int (reduceToNat reduceNe reduceEq reduceLT reduceLE)
def manyU (i : Nat) : Up := ⟨1000 + 2 * i, 1001 + 2 * i, (i : Int).tmod 8, 10000000⟩
def bentF (l : List Up) (how n a : Int) : List Up :=
  if l = [] then [⟨0, 0, n, 0⟩] else
  let k := (pickF a l.length).toNat
  let h := pickF how 6
  if h = 0 then l.set k { gd l k with f := n } else
  if h = 1 then l.set k { gd l k with t := n } else
  if h = 2 then l.set k { gd l k with c := n } else
  if h = 3 then l.set k { gd l k with a := n } else
  if h = 4 then (l.set 0 (gd l k)).set k (gd l 0) else
  l ++ (List.range 27).map manyU
theorem bentF_length (l : List Up) (how n a : Int) (h : l.length ≤ 14) : (bentF l how n a).length ≤ 41 := by
  unfold bentF
  dsimp only
  repeat' split
  all_goals simp <;> omega
theorem set_UP (l : List Up) (k : Nat) (a b c d : Int) : (l.map UP).set k (.agg [I a, I b, I c, I d]) = (l.set k ⟨a, b, c, d⟩).map UP := by rw [List.map_set]
theorem set_UP2 (l : List Up) (k : Nat) (u : Up) : (l.map UP).set k (.agg [I u.f, I u.t, I u.c, I u.a]) = (l.set k u).map UP := by rw [List.map_set]
theorem bent_nil (how n a : Int) : Ev Tryz.prog 7 [UPS [], I how, I n, I a] (.new 70 4 ([⟨0, 0, n, 0⟩].map UP)) := by
  refine ev_ofB [19] Tryz.func7 rfl (by kernel_rfl) mo (Nat.le_of_ble_eq_true rfl) ?_
  simp -implicitDefEqProofs (disch := omega) only [go_sem, ↓reduceIte, reduceEqDiff, reduceMul, reduceAdd, reduceDiv, Nat.reduceBEq, reduceLeDiff, reduceToNat, reduceNe, reduceEq, reduceLT, reduceLE, Int.reduceBEq, Int.reduceBNe, Tryz.ntmps7]
  refine branch_l rfl ?_
  simp -implicitDefEqProofs (disch := omega) only [go_sem, ↓reduceIte, reduceEqDiff, reduceMul, reduceAdd, reduceDiv, Nat.reduceBEq, reduceLeDiff, reduceToNat, reduceNe, reduceEq, reduceLT, reduceLE, Int.reduceBEq, Int.reduceBNe, Tryz.results7]
  try rfl
set_option maxHeartbeats 1000000 in
theorem bent_cons (l : List Up) (h0 : l ≠ []) (how n a : Int) (hl : l.length ≤ 14) (hh : R64 how) (hn : R64 n) (ha : R64 a) : Ev Tryz.prog 7 [UPS l, I how, I n, I a] (.new 70 4 ((bentF l how n a).map UP)) := by
  have hpos : 0 < l.length := List.length_pos_iff.2 h0
  have hb : bentF l how n a = (if l = [] then [⟨0, 0, n, 0⟩] else _) := rfl
  rw [if_neg h0] at hb
  have cp := pick23_ev a l.length ha (by omega)
  have hp := pickF_in (c := a) (n := l.length) (by omega)
  generalize pickF a l.length = K at *
  obtain ⟨k, rfl⟩ : ∃ k : Nat, K = k := ⟨K.toNat, by omega⟩
  rw [Int.toNat_natCast] at hb
  have cp2 := pick23_ev how 6 hh (by omega)
  have hp2 := pickF_in (c := how) (n := 6) (by omega)
  generalize pickF how 6 = h at *
  generalize bentF l how n a = r at *
  have hln : ((l.length : Int) = 0) = False := eq_false (by omega)
  refine ev_ofB [19] Tryz.func7 rfl (by kernel_rfl) mo (Nat.le_of_ble_eq_true rfl) ?_
  simp -implicitDefEqProofs (disch := omega) only [go_sem, ↓reduceIte, reduceEqDiff, reduceMul, reduceAdd, reduceDiv, Nat.reduceBEq, reduceLeDiff, reduceToNat, reduceNe, reduceEq, reduceLT, reduceLE, Int.reduceBEq, Int.reduceBNe, Tryz.ntmps7, hln]
  refine callC_at cp ?_
  simp -implicitDefEqProofs (disch := omega) only [go_sem, ↓reduceIte, reduceEqDiff, reduceMul, reduceAdd, reduceDiv, Nat.reduceBEq, reduceLeDiff, reduceToNat, reduceNe, reduceEq, reduceLT, reduceLE, Int.reduceBEq, Int.reduceBNe]
  refine callC_at cp2 ?_
  simp -implicitDefEqProofs (disch := omega) only [go_sem, ↓reduceIte, reduceEqDiff, reduceMul, reduceAdd, reduceDiv, Nat.reduceBEq, reduceLeDiff, reduceToNat, reduceNe, reduceEq, reduceLT, reduceLE, Int.reduceBEq, Int.reduceBNe]
  refine branch_mk (fun k0 => ?_) (fun k0 => ?_)
  · rw [if_pos k0] at hb
    subst hb
    simp -implicitDefEqProofs (disch := omega) only [go_sem, ↓reduceIte, reduceEqDiff, reduceMul, reduceAdd, reduceDiv, Nat.reduceBEq, reduceLeDiff, reduceToNat, reduceNe, reduceEq, reduceLT, reduceLE, Int.reduceBEq, Int.reduceBNe, and_self]
    simp -implicitDefEqProofs (disch := omega) only [go_sem, ↓reduceIte, reduceEqDiff, reduceMul, reduceAdd, reduceDiv, Nat.reduceBEq, reduceLeDiff, reduceToNat, reduceNe, reduceEq, reduceLT, reduceLE, Int.reduceBEq, Int.reduceBNe, and_self, set_UP, Tryz.results7]
    rw [List.take_of_length_le (by simp)]
  rw [if_neg k0] at hb
  simp -implicitDefEqProofs (disch := omega) only [go_sem, ↓reduceIte, reduceEqDiff, reduceMul, reduceAdd, reduceDiv, Nat.reduceBEq, reduceLeDiff, reduceToNat, reduceNe, reduceEq, reduceLT, reduceLE, Int.reduceBEq, Int.reduceBNe]
  refine branch_mk (fun k1 => ?_) (fun k1 => ?_)
  · rw [if_pos k1] at hb
    subst hb
    simp -implicitDefEqProofs (disch := omega) only [go_sem, ↓reduceIte, reduceEqDiff, reduceMul, reduceAdd, reduceDiv, Nat.reduceBEq, reduceLeDiff, reduceToNat, reduceNe, reduceEq, reduceLT, reduceLE, Int.reduceBEq, Int.reduceBNe, and_self]
    simp -implicitDefEqProofs (disch := omega) only [go_sem, ↓reduceIte, reduceEqDiff, reduceMul, reduceAdd, reduceDiv, Nat.reduceBEq, reduceLeDiff, reduceToNat, reduceNe, reduceEq, reduceLT, reduceLE, Int.reduceBEq, Int.reduceBNe, and_self, set_UP, Tryz.results7]
    rw [List.take_of_length_le (by simp)]
  rw [if_neg k1] at hb
  simp -implicitDefEqProofs (disch := omega) only [go_sem, ↓reduceIte, reduceEqDiff, reduceMul, reduceAdd, reduceDiv, Nat.reduceBEq, reduceLeDiff, reduceToNat, reduceNe, reduceEq, reduceLT, reduceLE, Int.reduceBEq, Int.reduceBNe]
  refine branch_mk (fun k2 => ?_) (fun k2 => ?_)
  · rw [if_pos k2] at hb
    subst hb
    simp -implicitDefEqProofs (disch := omega) only [go_sem, ↓reduceIte, reduceEqDiff, reduceMul, reduceAdd, reduceDiv, Nat.reduceBEq, reduceLeDiff, reduceToNat, reduceNe, reduceEq, reduceLT, reduceLE, Int.reduceBEq, Int.reduceBNe, and_self]
    simp -implicitDefEqProofs (disch := omega) only [go_sem, ↓reduceIte, reduceEqDiff, reduceMul, reduceAdd, reduceDiv, Nat.reduceBEq, reduceLeDiff, reduceToNat, reduceNe, reduceEq, reduceLT, reduceLE, Int.reduceBEq, Int.reduceBNe, and_self, set_UP, Tryz.results7]
    rw [List.take_of_length_le (by simp)]
  rw [if_neg k2] at hb
  simp -implicitDefEqProofs (disch := omega) only [go_sem, ↓reduceIte, reduceEqDiff, reduceMul, reduceAdd, reduceDiv, Nat.reduceBEq, reduceLeDiff, reduceToNat, reduceNe, reduceEq, reduceLT, reduceLE, Int.reduceBEq, Int.reduceBNe]
  refine branch_mk (fun k3 => ?_) (fun k3 => ?_)
  · rw [if_pos k3] at hb
    subst hb
    simp -implicitDefEqProofs (disch := omega) only [go_sem, ↓reduceIte, reduceEqDiff, reduceMul, reduceAdd, reduceDiv, Nat.reduceBEq, reduceLeDiff, reduceToNat, reduceNe, reduceEq, reduceLT, reduceLE, Int.reduceBEq, Int.reduceBNe, and_self]
    simp -implicitDefEqProofs (disch := omega) only [go_sem, ↓reduceIte, reduceEqDiff, reduceMul, reduceAdd, reduceDiv, Nat.reduceBEq, reduceLeDiff, reduceToNat, reduceNe, reduceEq, reduceLT, reduceLE, Int.reduceBEq, Int.reduceBNe, and_self, set_UP, Tryz.results7]
    rw [List.take_of_length_le (by simp)]
  rw [if_neg k3] at hb
  simp -implicitDefEqProofs (disch := omega) only [go_sem, ↓reduceIte, reduceEqDiff, reduceMul, reduceAdd, reduceDiv, Nat.reduceBEq, reduceLeDiff, reduceToNat, reduceNe, reduceEq, reduceLT, reduceLE, Int.reduceBEq, Int.reduceBNe]
  refine branch_mk (fun k4 => ?_) (fun k4 => ?_)
  · rw [if_pos k4] at hb
    have hkl : k < l.length := by omega
    simp -implicitDefEqProofs (disch := omega) only [go_sem, ↓reduceIte, reduceEqDiff, reduceMul, reduceAdd, reduceDiv, Nat.reduceBEq, reduceLeDiff, reduceToNat, reduceNe, reduceEq, reduceLT, reduceLE, Int.reduceBEq, Int.reduceBNe]
    refine region_K (fun D E σ => E 9 = .own 16777408 4 0 l.length ∧ E 10 = I k ∧ (D 13 = true → D 11 = true) ∧ (D 11 = true → D 6 = true) ∧ (D 11 = true → D 9 = true) ∧ (D 11 = false → σ 16777408 = some ⟨70, 4, l.map UP⟩) ∧ (D 11 = true → D 13 = false → σ 16777408 = some ⟨70, 4, (l.set 0 (gd l k)).map UP⟩) ∧ (D 13 = true → σ 16777408 = some ⟨70, 4, ((l.set 0 (gd l k)).set k (gd l 0)).map UP⟩) ∧ (D 0 = true → E 81 = .own 16777408 4 0 l.length) ∧ (D 1 = true → E 82 = .own 16777408 4 0 l.length) ∧ (D 2 = true → E 83 = I k) ∧ (D 3 = true → E 84 = .own 16777408 4 0 l.length) ∧ (D 4 = true → E 85 = I k) ∧ (D 5 = true → E 86 = .ptr 16777408 4 k 0) ∧ (D 6 = true → E 87 = UP (gd l k)) ∧ (D 7 = true → E 88 = .own 16777408 4 0 l.length) ∧ (D 8 = true → E 89 = .ptr 16777408 4 0 0) ∧ (D 9 = true → E 90 = UP (gd l 0)) ∧ (D 10 = true → E 91 = .ptr 16777408 4 0 0) ∧ (D 12 = true → E 92 = .ptr 16777408 4 k 0)) ?_ ?_ ?_
    · simp -implicitDefEqProofs (disch := omega) only [go_sem, ↓reduceIte, reduceEqDiff, reduceMul, reduceAdd, reduceDiv, Nat.reduceBEq, reduceLeDiff, reduceToNat, reduceNe, reduceEq, reduceLT, reduceLE, Int.reduceBEq, Int.reduceBNe, hpos, hkl, set_UP2]
      try simp
    · simp only [stepsK, depK, Region.binds, eq_self, forall_const, and_true]
      repeat' apply And.intro
      all_goals
        rintro D E σ ⟨e9, e10, c13_11, c11_6, c11_9, m0_0, m0_1, m0_2, j0, j1, j2, j3, j4, j5, j6, j7, j8, j9, j10, j12⟩ hd
        have k := And.intro trivial <| And.intro (cK c13_11) <| And.intro (cK c11_6) <| And.intro (cK c11_9) trivial
        simp -implicitDefEqProofs (disch := first | assumption | (simp only [hd, k]; done) | omega) only [go_sem, ↓reduceIte, reduceEqDiff, reduceMul, reduceAdd, reduceDiv, Nat.reduceBEq, reduceLeDiff, reduceToNat, reduceNe, reduceEq, reduceLT, reduceLE, Int.reduceBEq, Int.reduceBNe, e9, e10, m0_0, m0_1, m0_2, j0, j1, j2, j3, j4, j5, j6, j7, j8, j9, j10, j12, hpos, hkl, set_UP2]
        repeat' apply And.intro
        all_goals first | assumption | (intro _; assumption) | trivial | (simp -implicitDefEqProofs (contextual := true) (disch := first | assumption | omega) only [go_sem, ↓reduceIte, reduceEqDiff, reduceMul, reduceAdd, reduceDiv, Nat.reduceBEq, reduceLeDiff, reduceToNat, reduceNe, reduceEq, reduceLT, reduceLE, Int.reduceBEq, Int.reduceBNe, m0_0, m0_1, m0_2, j0, j1, j2, j3, j4, j5, j6, j7, j8, j9, j10, j12, hd, c13_11, c11_6, c11_9, k, implies_true, forall_const, false_implies, true_implies]; done) | (intro h; intros; exfalso; simp (maxDischargeDepth := 9) [hd, k] at h; done) | (intros; contradiction) | trace_state
    · rintro D E σ hD ⟨e9, e10, c13_11, c11_6, c11_9, m0_0, m0_1, m0_2, j0, j1, j2, j3, j4, j5, j6, j7, j8, j9, j10, j12⟩
      have g0 := m0_2 (hD 13 (by decide))
      have q0 := j0 (hD 0 (by decide))
      have q1 := j1 (hD 1 (by decide))
      have q2 := j2 (hD 2 (by decide))
      have q3 := j3 (hD 3 (by decide))
      have q4 := j4 (hD 4 (by decide))
      have q5 := j5 (hD 5 (by decide))
      have q6 := j6 (hD 6 (by decide))
      have q7 := j7 (hD 7 (by decide))
      have q8 := j8 (hD 8 (by decide))
      have q9 := j9 (hD 9 (by decide))
      have q10 := j10 (hD 10 (by decide))
      have q12 := j12 (hD 12 (by decide))
      clear c13_11 c11_6 c11_9 m0_0 m0_1 m0_2 j0 j1 j2 j3 j4 j5 j6 j7 j8 j9 j10 j12 hD
      subst hb
      simp -implicitDefEqProofs (disch := omega) only [go_sem, ↓reduceIte, reduceEqDiff, reduceMul, reduceAdd, reduceDiv, Nat.reduceBEq, reduceLeDiff, reduceToNat, reduceNe, reduceEq, reduceLT, reduceLE, Int.reduceBEq, Int.reduceBNe, e9, e10, g0, Tryz.results7]
      rw [List.take_of_length_le (by simp)]
  rw [if_neg k4] at hb
  simp -implicitDefEqProofs (disch := omega) only [go_sem, ↓reduceIte, reduceEqDiff, reduceMul, reduceAdd, reduceDiv, Nat.reduceBEq, reduceLeDiff, reduceToNat, reduceNe, reduceEq, reduceLT, reduceLE, Int.reduceBEq, Int.reduceBNe]
  refine loopC_mk (fun m E σ => ∃ i : Nat, i + m = 27 ∧ E 9 = .own 16777408 4 0 (l.length + i) ∧ E 11 = I i ∧ σ 16777408 = some ⟨70, 4, (l ++ (List.range i).map manyU).map UP⟩) 27 ⟨0, by omega, ?_⟩ ?_
  · simp -implicitDefEqProofs (disch := omega) only [go_sem, ↓reduceIte, reduceEqDiff, reduceMul, reduceAdd, reduceDiv, Nat.reduceBEq, reduceLeDiff, reduceToNat, reduceNe, reduceEq, reduceLT, reduceLE, Int.reduceBEq, Int.reduceBNe]
    simp
  rintro m E σ ⟨i, hm, e9, e11, s9⟩
  have hln : (l ++ (List.range i).map manyU).length = l.length + i := by simp
  have hs : (l ++ (List.range i).map manyU) ++ [manyU i] = l ++ (List.range (i + 1)).map manyU := by rw [List.range_succ, List.map_append, List.append_assoc]; rfl
  generalize l ++ (List.range i).map manyU = q at hln hs s9
  simp -implicitDefEqProofs (disch := omega) only [go_sem, ↓reduceIte, reduceEqDiff, reduceMul, reduceAdd, reduceDiv, Nat.reduceBEq, reduceLeDiff, reduceToNat, reduceNe, reduceEq, reduceLT, reduceLE, Int.reduceBEq, Int.reduceBNe, e9, e11, s9, hln]
  refine branch_mk (fun hc => ?_) (fun hc => ?_)
  · simp -implicitDefEqProofs (disch := omega) only [go_sem, ↓reduceIte, reduceEqDiff, reduceMul, reduceAdd, reduceDiv, Nat.reduceBEq, reduceLeDiff, reduceToNat, reduceNe, reduceEq, reduceLT, reduceLE, Int.reduceBEq, Int.reduceBNe, e9, e11, s9, hln]
    refine branch_l (by omega) ?_
    simp -implicitDefEqProofs (disch := omega) only [go_sem, ↓reduceIte, reduceEqDiff, reduceMul, reduceAdd, reduceDiv, Nat.reduceBEq, reduceLeDiff, reduceToNat, reduceNe, reduceEq, reduceLT, reduceLE, Int.reduceBEq, Int.reduceBNe, e9, e11, s9, hln]
    refine againQ_mk (27 - (i + 1)) (by omega) ⟨i + 1, by omega, ?_⟩
    simp -implicitDefEqProofs (disch := omega) only [go_sem, ↓reduceIte, reduceEqDiff, reduceMul, reduceAdd, reduceDiv, Nat.reduceBEq, reduceLeDiff, reduceToNat, reduceNe, reduceEq, reduceLT, reduceLE, Int.reduceBEq, Int.reduceBNe, e9, e11, s9, hln]
    refine ⟨rfl, rfl, ?_⟩
    rw [← List.range_succ, ← hs]; rfl
  · obtain rfl : i = 27 := by omega
    have h40 : l.length + 27 = q.length := hln.symm
    have hq : q = r := by
      rw [hb]
      have e : ∀ x : Up, q ++ [x] = (l ++ (List.range 27).map manyU) ++ [x] → q = l ++ (List.range 27).map manyU := fun x h => List.append_cancel_right h
      rw [List.range_succ, List.map_append, ← List.append_assoc] at hs
      exact e _ hs
    simp -implicitDefEqProofs (disch := omega) only [go_sem, ↓reduceIte, reduceEqDiff, reduceMul, reduceAdd, reduceDiv, Nat.reduceBEq, reduceLeDiff, reduceToNat, reduceNe, reduceEq, reduceLT, reduceLE, Int.reduceBEq, Int.reduceBNe, e9, e11, s9, hln, h40, hq, List.take_length, Tryz.results7]
theorem bent_ev (l : List Up) (how n a : Int) (hl : l.length ≤ 14) (hh : R64 how) (hn : R64 n) (ha : R64 a) : Ev Tryz.prog 7 [UPS l, I how, I n, I a] (UPS (bentF l how n a)) := by
  refine ev_sl (r := .new 70 4 ((bentF l how n a).map UP)) ?_ _
  by_cases h0 : l = []
  · subst h0
    have e : bentF [] how n a = [⟨0, 0, n, 0⟩] := rfl
    rw [e]
    exact bent_nil how n a
  · exact bent_cons l h0 how n a hl hh hn ha
end Go.Proofs.YthkihocapdfonaaGreatDoor
set_option maxRecDepth 100000
namespace Go.Proofs.YthkihocapdfonaaGreatDoor
open Go.Vai Go Go.Proofs
open Nat (reduceEqDiff reduceMul reduceAdd reduceDiv reduceLeDiff)
open Int (reduceToNat reduceNe reduceEq reduceLT reduceLE)
theorem hashN_succ (l : List Up) (v : Nat) : hashN l (v + 1) = hashN l v ++ [⟨#[2]⟩ ++ (headN l v ++ encU (gd l v))] := by
  unfold hashN; rw [List.range_succ, List.map_append]; rfl
theorem hashN_len (l : List Up) (v : Nat) : (hashN l v).length = v := by simp [hashN]
theorem hashedR_ev (l : List Up) (v : Nat) (hv : v ≤ l.length) (hl : l.length ≤ 100) (hu : ∀ u ∈ l, u.nb) : Ev Tryz.prog 13 [UPS l, I v] (SLs (hashN l v)) := by
  refine ev_sl (r := .new 9 1 ((hashN l v).map Str)) ?_ _
  refine ev_of Tryz.func13 rfl (by kernel_rfl) mo (Nat.le_of_ble_eq_true rfl) ?_
  simp -implicitDefEqProofs (disch := omega) only [go_sem, ↓reduceIte, reduceEqDiff, reduceMul, reduceAdd, reduceDiv, Nat.reduceBEq, reduceLeDiff, reduceToNat, reduceNe, reduceEq, reduceLT, reduceLE, Int.reduceBEq, Int.reduceBNe, Tryz.ntmps13]
  refine loopC_mk (fun k E σ => ∃ i : Nat, i + k = v ∧ E 0 = UPS l ∧ E 1 = I v ∧ E 5 = .own 29360208 1 0 i ∧ E 6 = I i ∧ σ 29360208 = some ⟨9, 1, (hashN l i).map Str⟩) v ⟨0, by omega, ?_⟩ ?_
  · simp -implicitDefEqProofs (disch := omega) only [go_sem, ↓reduceIte, reduceEqDiff, reduceMul, reduceAdd, reduceDiv, Nat.reduceBEq, reduceLeDiff, reduceToNat, reduceNe, reduceEq, reduceLT, reduceLE, Int.reduceBEq, Int.reduceBNe]
    simp [hashN]
  rintro k E σ ⟨i, hk, e0, e1, e5, e6, s5⟩
  simp -implicitDefEqProofs (disch := omega) only [go_sem, ↓reduceIte, reduceEqDiff, reduceMul, reduceAdd, reduceDiv, Nat.reduceBEq, reduceLeDiff, reduceToNat, reduceNe, reduceEq, reduceLT, reduceLE, Int.reduceBEq, Int.reduceBNe, e0, e1, e5, e6, s5]
  refine branch_mk (fun hc => ?_) (fun hc => ?_)
  · have hlt := hashN_len l i
    have hs := hashN_succ l i
    have ht : (l.take (i + 1)).length = i + 1 := by rw [List.length_take]; omega
    have hen := encodingsR_ev (l.take (i + 1)) (by omega) (fun u h => hu u (List.mem_of_mem_take h))
    have hh := headR_ev (((l.take (i + 1)).map encU).take i) (by rw [List.length_take, List.length_map]; omega) (by
      intro s hs
      obtain ⟨u, _, rfl⟩ := List.mem_map.1 (List.mem_of_mem_take hs)
      have := encU_size u; omega)
    have hg : gd ((l.take (i + 1)).map encU) i = encU (gd l i) := by rw [gd_getB _ i (by rw [List.length_map]; omega), gd_getB _ i (by omega), List.getElem_map, List.getElem_take]
    have htk : ((l.take (i + 1)).map encU).take i = (l.take i).map encU := by rw [← List.map_take, List.take_take, Nat.min_eq_left (by omega)]
    rw [htk, ← headF_eq l i (by omega)] at hh
    have hlen : ((l.take (i + 1)).map encU).length = i + 1 := by rw [List.length_map, ht]
    have h32 := headN_size l i
    have hes := encU_size (gd l i)
    obtain ⟨g, hg'⟩ : ∃ g, hashN l (i + 1) = g := ⟨_, rfl⟩
    rw [hg'] at hs
    generalize hashN l i = g0 at *
    generalize headN l i = H at *
    generalize encU (gd l i) = x at *
    generalize (l.take (i + 1)).map encU = q at *
    generalize (l.take i).map encU = q0 at *
    simp -implicitDefEqProofs (disch := omega) only [go_sem, ↓reduceIte, reduceEqDiff, reduceMul, reduceAdd, reduceDiv, Nat.reduceBEq, reduceLeDiff, reduceToNat, reduceNe, reduceEq, reduceLT, reduceLE, Int.reduceBEq, Int.reduceBNe, e0, e1, e5, e6, s5]
    refine branch_l (by omega) ?_
    simp -implicitDefEqProofs (disch := omega) only [go_sem, ↓reduceIte, reduceEqDiff, reduceMul, reduceAdd, reduceDiv, Nat.reduceBEq, reduceLeDiff, reduceToNat, reduceNe, reduceEq, reduceLT, reduceLE, Int.reduceBEq, Int.reduceBNe, e0, e1, e5, e6, s5]
    refine callC_at hen ?_
    simp -implicitDefEqProofs (disch := omega) only [go_sem, ↓reduceIte, reduceEqDiff, reduceMul, reduceAdd, reduceDiv, Nat.reduceBEq, reduceLeDiff, reduceToNat, reduceNe, reduceEq, reduceLT, reduceLE, Int.reduceBEq, Int.reduceBNe, e0, e1, e5, e6, s5, hlen]
    rw [Nat.sub_zero, htk]
    refine callC_at hh ?_
    have hz : (#[2] : Array UInt8).size = 1 := rfl
    have hs : g = g0 ++ [⟨#[2]⟩ ++ H ++ x] := by rw [hs, ← ByteArray.append_assoc]
    simp -implicitDefEqProofs (disch := omega) only [go_sem, ↓reduceIte, reduceEqDiff, reduceMul, reduceAdd, reduceDiv, Nat.reduceBEq, reduceLeDiff, reduceToNat, reduceNe, reduceEq, reduceLT, reduceLE, Int.reduceBEq, Int.reduceBNe, e0, e1, e5, e6, s5, hlen, htk, hlt, hg, hz, ByteArray.size_append]
    refine againQ_mk (v - (i + 1)) (by omega) ⟨i + 1, by omega, ?_⟩
    simp -implicitDefEqProofs (disch := omega) only [go_sem, ↓reduceIte, reduceEqDiff, reduceMul, reduceAdd, reduceDiv, Nat.reduceBEq, reduceLeDiff, reduceToNat, reduceNe, reduceEq, reduceLT, reduceLE, Int.reduceBEq, Int.reduceBNe, e0, e1, e5, e6, s5, hlen, htk, hlt, hg, hs]
    rw [hg', hs]
    exact ⟨rfl, rfl⟩
  · obtain rfl : i = v := by omega
    have hlt := hashN_len l i
    simp -implicitDefEqProofs (disch := omega) only [go_sem, ↓reduceIte, reduceEqDiff, reduceMul, reduceAdd, reduceDiv, Nat.reduceBEq, reduceLeDiff, reduceToNat, reduceNe, reduceEq, reduceLT, reduceLE, Int.reduceBEq, Int.reduceBNe, e0, e1, e5, e6, s5, hlt, Tryz.results13]
end Go.Proofs.YthkihocapdfonaaGreatDoor
set_option maxRecDepth 100000
namespace Go.Proofs.YthkihocapdfonaaGreatDoor
open Go.Vai Go Go.Proofs
open Nat (reduceEqDiff reduceMul reduceAdd reduceDiv reduceLeDiff)
open Int (reduceToNat reduceNe reduceEq reduceLT reduceLE)
theorem bytes_eq {a b : ByteArray} (h : a.data.toList = b.data.toList) : a = b := by
  cases a; cases b
  simp only [ByteArray.mk.injEq]
  exact Array.toList_inj.1 h
theorem str_beq (a b : ByteArray) : (a.toList == b.toList) = decide (a = b) := by
  rw [ByteArray.toList_eq, ByteArray.toList_eq, Bool.eq_iff_iff, decide_eq_true_iff, beq_iff_eq]
  exact ⟨bytes_eq, fun h => by rw [h]⟩
def collF (a b : List ByteArray) : Bool := a.any fun x => b.any fun y => decide (x ≠ y ∧ shaF x = shaF y)
theorem collF_iff {a b : List ByteArray} : collF a b = true ↔ Coll a b := by
  simp only [collF, List.any_eq_true, decide_eq_true_eq]; rfl
theorem collF_no {a b : List ByteArray} (h : ∀ i, i < a.length → ∀ j, j < b.length → ¬ (gd a i ≠ gd b j ∧ shaF (gd a i) = shaF (gd b j))) : collF a b = false := by
  cases e : collF a b with
  | false => rfl
  | true =>
    obtain ⟨x, hx, y, hy, hn⟩ := collF_iff.1 e
    obtain ⟨i, hi, rfl⟩ := List.mem_iff_getElem.1 hx
    obtain ⟨j, hj, rfl⟩ := List.mem_iff_getElem.1 hy
    have := h i hi j hj
    rw [gd_getB _ i hi, gd_getB _ j hj] at this
    exact (this hn).elim
theorem collided_ev (a b : List ByteArray) (ha : a.length ≤ 1000000) (hb : b.length ≤ 1000000) (has : ∀ x ∈ a, x.size ≤ 100000000) (hbs : ∀ x ∈ b, x.size ≤ 100000000) : Ev Tryz.prog 12 [SLs a, SLs b] (B (collF a b)) := by
  refine ev_of Tryz.func12 rfl (by kernel_rfl) mo (Nat.le_of_ble_eq_true rfl) ?_
  simp -implicitDefEqProofs (disch := omega) only [go_sem, ↓reduceIte, reduceEqDiff, reduceMul, reduceAdd, reduceDiv, Nat.reduceBEq, reduceLeDiff, reduceToNat, reduceNe, reduceEq, reduceLT, reduceLE, Int.reduceBEq, Int.reduceBNe, Tryz.ntmps12]
  refine loopC_mk (fun n E σ => ∃ v : Nat, v + n = b.length ∧ E 0 = SLs a ∧ E 1 = SLs b ∧ E 5 = .own 27263056 1 0 v ∧ E 6 = I v ∧ σ 27263056 = some ⟨9, 1, ((b.take v).map shaF).map Str⟩) b.length ⟨0, by omega, ?_⟩ ?_
  · simp -implicitDefEqProofs (disch := omega) only [go_sem, ↓reduceIte, reduceEqDiff, reduceMul, reduceAdd, reduceDiv, Nat.reduceBEq, reduceLeDiff, reduceToNat, reduceNe, reduceEq, reduceLT, reduceLE, Int.reduceBEq, Int.reduceBNe]
    simp
  rintro n E σ ⟨v, hv, h0, h1, h5, h6, s5⟩
  simp -implicitDefEqProofs (disch := omega) only [go_sem, ↓reduceIte, reduceEqDiff, reduceMul, reduceAdd, reduceDiv, Nat.reduceBEq, reduceLeDiff, reduceToNat, reduceNe, reduceEq, reduceLT, reduceLE, Int.reduceBEq, Int.reduceBNe, h0, h1, h5, h6, s5]
  refine branch_mk (fun hc => ?_) (fun hc => ?_)
  · simp -implicitDefEqProofs (disch := omega) only [go_sem, ↓reduceIte, reduceEqDiff, reduceMul, reduceAdd, reduceDiv, Nat.reduceBEq, reduceLeDiff, reduceToNat, reduceNe, reduceEq, reduceLT, reduceLE, Int.reduceBEq, Int.reduceBNe, h0, h1, h5, h6, s5]
    refine callC_at (sumR_ev (gd b v) (hbs _ (gd_mem b v (by omega)))) ?_
    have hvl : (b.take v).length = v := by rw [List.length_take]; omega
    have hvt : (b.take v).take v = b.take v := by rw [List.take_take, Nat.min_self]
    have htk : (b.take (v + 1)).map shaF = (b.take v).map shaF ++ [shaF (gd b v)] := by rw [List.take_add_one, gd_some b v (by omega)]; simp
    simp -implicitDefEqProofs (disch := omega) only [go_sem, ↓reduceIte, reduceEqDiff, reduceMul, reduceAdd, reduceDiv, Nat.reduceBEq, reduceLeDiff, reduceToNat, reduceNe, reduceEq, reduceLT, reduceLE, Int.reduceBEq, Int.reduceBNe, h0, h1, h5, h6, s5, hvl, hvt, htk.symm]
    refine againQ_mk (n - 1) (by omega) ⟨v + 1, by omega, ?_⟩
    simp -implicitDefEqProofs (disch := omega) only [go_sem, ↓reduceIte, reduceEqDiff, reduceMul, reduceAdd, reduceDiv, Nat.reduceBEq, reduceLeDiff, reduceToNat, reduceNe, reduceEq, reduceLT, reduceLE, Int.reduceBEq, Int.reduceBNe, h0, h1, h5, h6, s5]
    simp
  obtain rfl : v = b.length := by omega
  rw [List.take_length] at s5
  simp -implicitDefEqProofs (disch := omega) only [go_sem, ↓reduceIte, reduceEqDiff, reduceMul, reduceAdd, reduceDiv, Nat.reduceBEq, reduceLeDiff, reduceToNat, reduceNe, reduceEq, reduceLT, reduceLE, Int.reduceBEq, Int.reduceBNe, h0, h1, h5, h6, s5]
  refine loopC_mk (fun n E σ => ∃ v : Nat, v + n = a.length ∧ E 0 = SLs a ∧ E 1 = SLs b ∧ E 5 = .own 27263056 1 0 b.length ∧ E 7 = I v ∧ σ 27263056 = some ⟨9, 1, (b.map shaF).map Str⟩ ∧ ∀ i, i < v → ∀ j, j < b.length → ¬ (gd a i ≠ gd b j ∧ shaF (gd a i) = shaF (gd b j))) a.length ⟨0, by omega, ?_⟩ ?_
  · simp -implicitDefEqProofs (disch := omega) only [go_sem, ↓reduceIte, reduceEqDiff, reduceMul, reduceAdd, reduceDiv, Nat.reduceBEq, reduceLeDiff, reduceToNat, reduceNe, reduceEq, reduceLT, reduceLE, Int.reduceBEq, Int.reduceBNe, h0, h1, h5, h6, s5]
    simp
  clear h0 h1 h5 h6 s5 hc E σ
  rintro n E σ ⟨v, hv, h0, h1, h5, h7, s5, hn⟩
  simp -implicitDefEqProofs (disch := omega) only [go_sem, ↓reduceIte, reduceEqDiff, reduceMul, reduceAdd, reduceDiv, Nat.reduceBEq, reduceLeDiff, reduceToNat, reduceNe, reduceEq, reduceLT, reduceLE, Int.reduceBEq, Int.reduceBNe, h0, h1, h5, h7, s5]
  refine branch_mk (fun hc => ?_) (fun hc => ?_)
  · simp -implicitDefEqProofs (disch := omega) only [go_sem, ↓reduceIte, reduceEqDiff, reduceMul, reduceAdd, reduceDiv, Nat.reduceBEq, reduceLeDiff, reduceToNat, reduceNe, reduceEq, reduceLT, reduceLE, Int.reduceBEq, Int.reduceBNe, h0, h1, h5, h7, s5]
    refine callC_at (sumR_ev (gd a v) (has _ (gd_mem a v (by omega)))) ?_
    simp -implicitDefEqProofs (disch := omega) only [go_sem, ↓reduceIte, reduceEqDiff, reduceMul, reduceAdd, reduceDiv, Nat.reduceBEq, reduceLeDiff, reduceToNat, reduceNe, reduceEq, reduceLT, reduceLE, Int.reduceBEq, Int.reduceBNe, h0, h1, h5, h7, s5]
    refine loopC_mk (fun n E σ => ∃ w : Nat, w + n = b.length ∧ E 0 = SLs a ∧ E 1 = SLs b ∧ E 5 = .own 27263056 1 0 b.length ∧ E 7 = I v ∧ E 8 = Str (shaF (gd a v)) ∧ E 9 = I w ∧ σ 27263056 = some ⟨9, 1, (b.map shaF).map Str⟩ ∧ ∀ j, j < w → ¬ (gd a v ≠ gd b j ∧ shaF (gd a v) = shaF (gd b j))) b.length ⟨0, by omega, ?_⟩ ?_
    · simp -implicitDefEqProofs (disch := omega) only [go_sem, ↓reduceIte, reduceEqDiff, reduceMul, reduceAdd, reduceDiv, Nat.reduceBEq, reduceLeDiff, reduceToNat, reduceNe, reduceEq, reduceLT, reduceLE, Int.reduceBEq, Int.reduceBNe, h0, h1, h5, h7, s5]
      simp
    clear h0 h1 h5 h7 s5 E σ
    rintro m E σ ⟨w, hw, h0, h1, h5, h7, h8, h9, s5, hm⟩
    simp -implicitDefEqProofs (disch := omega) only [go_sem, ↓reduceIte, reduceEqDiff, reduceMul, reduceAdd, reduceDiv, Nat.reduceBEq, reduceLeDiff, reduceToNat, reduceNe, reduceEq, reduceLT, reduceLE, Int.reduceBEq, Int.reduceBNe, h0, h1, h5, h7, h8, h9, s5]
    refine branch_mk (fun hc => ?_) (fun hc => ?_)
    · have hgm : gd (b.map shaF) w = shaF (gd b w) := by rw [gd_getB _ w (by simp; omega), gd_getB _ w (by omega), List.getElem_map]
      simp -implicitDefEqProofs (disch := omega) only [go_sem, ↓reduceIte, reduceEqDiff, reduceMul, reduceAdd, reduceDiv, Nat.reduceBEq, reduceLeDiff, reduceToNat, reduceNe, reduceEq, reduceLT, reduceLE, Int.reduceBEq, Int.reduceBNe, h0, h1, h5, h7, h8, h9, s5, str_beq]
      refine branch_mk (fun hd => ?_) (fun hd => ?_)
      · simp -implicitDefEqProofs (disch := omega) only [go_sem, ↓reduceIte, reduceEqDiff, reduceMul, reduceAdd, reduceDiv, Nat.reduceBEq, reduceLeDiff, reduceToNat, reduceNe, reduceEq, reduceLT, reduceLE, Int.reduceBEq, Int.reduceBNe, h0, h1, h5, h7, h8, h9, s5, str_beq]
        refine branch_mk (fun he => ?_) (fun he => ?_)
        · have hC : collF a b = true := collF_iff.2 ⟨_, gd_mem a v (by omega), _, gd_mem b w (by omega), hd, by simpa [hgm] using he⟩
          simp -implicitDefEqProofs (disch := omega) only [go_sem, ↓reduceIte, reduceEqDiff, reduceMul, reduceAdd, reduceDiv, Nat.reduceBEq, reduceLeDiff, reduceToNat, reduceNe, reduceEq, reduceLT, reduceLE, Int.reduceBEq, Int.reduceBNe, h0, h1, h5, h7, h8, h9, s5, hC, Tryz.results12]
        · simp -implicitDefEqProofs (disch := omega) only [go_sem, ↓reduceIte, reduceEqDiff, reduceMul, reduceAdd, reduceDiv, Nat.reduceBEq, reduceLeDiff, reduceToNat, reduceNe, reduceEq, reduceLT, reduceLE, Int.reduceBEq, Int.reduceBNe, h0, h1, h5, h7, h8, h9, s5, str_beq]
          refine againQ_mk (m - 1) (by omega) ⟨w + 1, by omega, ?_⟩
          simp -implicitDefEqProofs (disch := omega) only [go_sem, ↓reduceIte, reduceEqDiff, reduceMul, reduceAdd, reduceDiv, Nat.reduceBEq, reduceLeDiff, reduceToNat, reduceNe, reduceEq, reduceLT, reduceLE, Int.reduceBEq, Int.reduceBNe, h0, h1, h5, h7, h8, h9, s5]
          refine ⟨by simp, fun j hj => ?_⟩
          by_cases e : j = w
          · subst e
            intro h; exact he (by simpa [hgm] using h.2)
          · exact hm j (by omega)
      · simp -implicitDefEqProofs (disch := omega) only [go_sem, ↓reduceIte, reduceEqDiff, reduceMul, reduceAdd, reduceDiv, Nat.reduceBEq, reduceLeDiff, reduceToNat, reduceNe, reduceEq, reduceLT, reduceLE, Int.reduceBEq, Int.reduceBNe, h0, h1, h5, h7, h8, h9, s5, str_beq]
        refine againQ_mk (m - 1) (by omega) ⟨w + 1, by omega, ?_⟩
        simp -implicitDefEqProofs (disch := omega) only [go_sem, ↓reduceIte, reduceEqDiff, reduceMul, reduceAdd, reduceDiv, Nat.reduceBEq, reduceLeDiff, reduceToNat, reduceNe, reduceEq, reduceLT, reduceLE, Int.reduceBEq, Int.reduceBNe, h0, h1, h5, h7, h8, h9, s5]
        refine ⟨by simp, fun j hj => ?_⟩
        by_cases e : j = w
        · subst e
          intro h; exact hd h.1
        · exact hm j (by omega)
    · simp -implicitDefEqProofs (disch := omega) only [go_sem, ↓reduceIte, reduceEqDiff, reduceMul, reduceAdd, reduceDiv, Nat.reduceBEq, reduceLeDiff, reduceToNat, reduceNe, reduceEq, reduceLT, reduceLE, Int.reduceBEq, Int.reduceBNe, h0, h1, h5, h7, h8, h9, s5]
      refine againQ_mk (n - 1) (by omega) ⟨v + 1, by omega, ?_⟩
      simp -implicitDefEqProofs (disch := omega) only [go_sem, ↓reduceIte, reduceEqDiff, reduceMul, reduceAdd, reduceDiv, Nat.reduceBEq, reduceLeDiff, reduceToNat, reduceNe, reduceEq, reduceLT, reduceLE, Int.reduceBEq, Int.reduceBNe, h0, h1, h5, h7, h8, h9, s5]
      refine ⟨by simp, fun i hi j hj => ?_⟩
      by_cases e : i = v
      · subst e; exact hm j (by omega)
      · exact hn i (by omega) j hj
  · have hC := collF_no (a := a) (b := b) fun i hi j hj => hn i (by omega) j hj
    simp -implicitDefEqProofs (disch := omega) only [go_sem, ↓reduceIte, reduceEqDiff, reduceMul, reduceAdd, reduceDiv, Nat.reduceBEq, reduceLeDiff, reduceToNat, reduceNe, reduceEq, reduceLT, reduceLE, Int.reduceBEq, Int.reduceBNe, h0, h1, h5, h7, s5, hC, Tryz.results12]
end Go.Proofs.YthkihocapdfonaaGreatDoor

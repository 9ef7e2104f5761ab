/- Heads; the document's texts; the example; the frame -/
import Derived.Test.YthkihocapdfonaaGreatDoorKG
import Derived.Test.YthkihocapdfonaaGreatDoorRows
import Derived.Test.YthkihocapdfonaaGreatDoorCards
import Derived.Test.YthkihocapdfonaaGreatDoorTie
import Derived.ProofKit
import Derived.LaidMore
import Derived.OpenShut
import Derived.Stop.Joined
import Derived.Handed
import Derived.Lay
set_option linter.unusedVariables false
set_option linter.unusedSimpArgs false
set_option maxRecDepth 100000
namespace Go.Proofs.YthkihocapdfonaaGreatDoor
open Go.Vai Go Go.Proofs
open Nat (reduceEqDiff reduceMul reduceAdd reduceDiv reduceLeDiff)
open Int (reduceToNat reduceNe reduceEq reduceLT reduceLE)
theorem catF_two (a b : ByteArray) : catF [a, b] = a ++ b := by
  unfold catF
  rw [List.map_cons, List.map_cons, List.map_nil, Lib.join_cons]
  simp only [Lib.joinTail, List.map_cons, List.map_nil, List.flatten_cons, List.flatten_nil, List.append_nil]
  apply ByteArray.ext
  simp [ByteArray.data_append]
theorem chain_ev (a b : ByteArray) (hl : a.size + b.size ≤ 99999999) : Ev Tryz.prog 37 [Str a, Str b] (Str (chainF a b)) := by
  refine ev_of Tryz.func37 rfl (by kernel_rfl) mo (Nat.le_of_ble_eq_true rfl) ?_
  simp -implicitDefEqProofs (disch := omega) only [go_sem, Tryz.ntmps37]
  refine callC_at (marked_ev _) ?_
  simp -implicitDefEqProofs (disch := omega) only [go_sem]
  refine callC_at (marked1_ev ⟨#[2]⟩ [a, b] ?_ (by simp)) ?_
  · rw [catF_two, ByteArray.size_append]; show 1 + _ ≤ _; omega
  simp -implicitDefEqProofs (disch := omega) only [go_sem, Tryz.results37, catF_two, chainF]
theorem numS_append (a : List Int) (n : Int) : numS (a ++ [n]) = numS a ++ viS n := by
  refine bI_inj ?_
  rw [numS_bI, bI_append, numS_bI]; simp [numBC]
theorem put_ev (l : List Int) (hl : l.length ≤ 1000) (hb : ∀ n ∈ l, -4611686018427387903 ≤ n ∧ n ≤ 4611686018427387903) : Ev Tryz.prog 42 [SL l] (Str (numS l)) := by
  refine ev_of Tryz.func42 rfl (by kernel_rfl) mo (Nat.le_of_ble_eq_true rfl) ?_
  simp -implicitDefEqProofs (disch := omega) only [go_sem, Tryz.ntmps42]
  refine loopC_mk (fun n E σ => ∃ i : Nat, i + n = l.length ∧ E 3 = Str (numS (l.take i)) ∧ E 8 = SL l ∧ E 9 = I l.length ∧ E 10 = I i) l.length ⟨0, by omega, ?_⟩ ?_
  · simp -implicitDefEqProofs (disch := omega) only [go_sem]
    exact ⟨rfl, rfl⟩
  rintro n E σ ⟨i, hn, e3, e8, e9, e10⟩
  simp -implicitDefEqProofs (disch := omega) only [go_sem, e3, e8, e9, e10]
  refine branch_mk (fun hc => ?_) (fun hc => ?_)
  · have hb' := hb _ (gd_mem l i (by omega))
    have hs := numS_append (l.take i) (gd l i)
    rw [← take_succ' l i (by omega)] at hs
    have hsz := numS_size (l.take i)
    have hsz2 := numS_size (l.take (i + 1))
    rw [List.length_take] at hsz hsz2
    generalize numS (l.take i) = A at *
    rw [hs, ByteArray.size_append] at hsz2
    simp -implicitDefEqProofs (disch := omega) only [go_sem, e3, e8, e9, e10]
    refine callC_at (putInt_ev _ hb'.1 hb'.2) ?_
    simp -implicitDefEqProofs (disch := omega) only [go_sem, e3, e8, e9, e10]
    refine againQ_mk (l.length - (i + 1)) (by omega) ⟨i + 1, by omega, ?_⟩
    simp -implicitDefEqProofs (disch := omega) only [go_sem, e3, e8, e9, e10, hs]
    rfl
  · obtain rfl : i = l.length := by omega
    rw [List.take_length] at e3
    simp -implicitDefEqProofs (disch := omega) only [go_sem, e3, Tryz.results42]
theorem numS_four (u : Up) : numS [u.f, u.t, u.c, u.a] = encU u := rfl
theorem z32 : strOfNums (List.replicate 32 0) = zero32 := by decide
theorem head_ev (l : List Up) (v : Int) (hl : l.length ≤ 1000) : Ev Tryz.prog 10 [UPS l, I v] (.tup [Str (if inV l v then headN l v.toNat else ⟨#[]⟩), I (if inV l v then 0 else 230)]) := by
  refine ev_of Tryz.func10 rfl (by kernel_rfl) mo (Nat.le_of_ble_eq_true rfl) ?_
  simp -implicitDefEqProofs (disch := omega) only [go_sem, Tryz.ntmps10]
  refine callC_at (tvalid_ev l hl) ?_
  by_cases h1 : validT l = true
  case neg =>
    rw [if_neg (fun h => h1 h.1), if_neg (fun h => h1 h.1)]
    have h1 : validT l = false := by simpa using h1
    simp -implicitDefEqProofs (disch := omega) only [go_sem, h1, Tryz.results10]
  simp -implicitDefEqProofs (disch := omega) only [go_sem, h1]
  refine callC_at (isIn_ev v 0 l.length) ?_
  by_cases h2 : 0 ≤ v ∧ v ≤ l.length
  case neg =>
    rw [if_neg (fun h => h2 h.2), if_neg (fun h => h2 h.2)]
    simp -implicitDefEqProofs (disch := omega) only [go_sem, h2, Tryz.results10]
  rw [if_pos ⟨h1, h2⟩, if_pos ⟨h1, h2⟩]
  obtain ⟨k, rfl⟩ : ∃ k : Nat, v = k := ⟨v.toNat, by omega⟩
  rw [Int.toNat_natCast]
  have hk : k ≤ l.length := by omega
  simp -implicitDefEqProofs (disch := omega) only [go_sem, h2, and_self]
  refine toStr_mk (List.replicate 32 0) (by simp -implicitDefEqProofs (disch := omega) only [go_sem]; rfl) (by intro b; simp -implicitDefEqProofs (disch := omega) only [go_sem]; intro e; cases e) (e := 5) rfl rfl rfl ?_
  rw [z32]
  simp -implicitDefEqProofs (disch := omega) only [go_sem]
  have hlt : (l.take k).length = k := by rw [List.length_take]; omega
  refine loopC_mk (fun n E σ => ∃ i : Nat, i + n = k ∧ E 6 = Str (headN l i) ∧ E 23 = UPS (l.take k) ∧ E 24 = I k ∧ E 25 = I i) k ⟨0, by omega, ?_⟩ ?_
  · simp -implicitDefEqProofs (disch := omega) only [go_sem]
    rw [Nat.sub_zero, hlt]
    exact ⟨rfl, rfl, rfl, rfl⟩
  rintro n E σ ⟨i, hn, e6, e23, e24, e25⟩
  simp -implicitDefEqProofs (disch := omega) only [go_sem, e6, e23, e24, e25]
  refine branch_mk (fun hc => ?_) (fun hc => ?_)
  · have hgt : gd (l.take k) i = gd l i := gd_take l k i (by omega)
    have hnb := validT_nb h1 _ (gd_mem l i (by omega))
    have hsz := headN_size l i
    have hes := encU_size (gd l i)
    have hhd : headN l (i + 1) = chainF (headN l i) (encU (gd l i)) := rfl
    obtain ⟨H, hH⟩ : ∃ H, headN l i = H := ⟨_, rfl⟩
    rw [hH] at e6 hsz hhd
    have hput := put_ev [(gd l i).f, (gd l i).t, (gd l i).c, (gd l i).a] (by simp) (by
      intro n hn'
      simp only [List.mem_cons, List.not_mem_nil, or_false] at hn'
      rcases hn' with rfl | rfl | rfl | rfl
      · exact hnb.1
      · exact hnb.2.1
      · exact hnb.2.2.1
      · exact hnb.2.2.2)
    rw [numS_four] at hput
    simp -implicitDefEqProofs (disch := omega) only [go_sem, e6, e23, e24, e25, hgt, hlt]
    refine callC_at hput ?_
    simp -implicitDefEqProofs (disch := omega) only [go_sem, e6, e23, e24, e25, hgt, hlt]
    refine callC_at (chain_ev H (encU (gd l i)) (by omega)) ?_
    simp -implicitDefEqProofs (disch := omega) only [go_sem, e6, e23, e24, e25, hgt, hlt]
    refine againQ_mk (k - (i + 1)) (by omega) ⟨i + 1, by omega, ?_⟩
    simp -implicitDefEqProofs (disch := omega) only [go_sem, e6, e23, e24, e25, hgt, hlt, hhd]
    rfl
  · obtain rfl : i = k := by omega
    simp -implicitDefEqProofs (disch := omega) only [go_sem, e6, Tryz.results10]
end Go.Proofs.YthkihocapdfonaaGreatDoor
set_option maxRecDepth 100000
namespace Go.Proofs.YthkihocapdfonaaGreatDoor
open Go.Vai Go Go.Proofs
open Nat (reduceEqDiff reduceMul reduceAdd reduceDiv reduceLeDiff)
open Int (reduceToNat reduceNe reduceEq reduceLT reduceLE)
theorem take_ext {T : Type} [Inhabited T] [DecidableEq T] {a b : List T} (hl : a.length = b.length) {i : Nat} (hi : i < a.length) (h : a.take i = b.take i) (he : gd a i = gd b i) : a.take (i + 1) = b.take (i + 1) := by
  rw [take_succ' a i hi, take_succ' b i (by omega), h, he]
theorem take_ne {T : Type} [Inhabited T] {a b : List T} {i : Nat} (he : gd a i ≠ gd b i) : a ≠ b := fun h => he (by rw [h])
deriving instance DecidableEq for Bk
deriving instance DecidableEq for Up
theorem sameB_ev (a b : List Bk) (la : a.length ≤ 1000000000) (lb : b.length ≤ 1000000000) : Ev Tryz.prog 22 [BL a, BL b] (B (decide (a = b))) := by
  refine ev_of Tryz.func22 rfl (by kernel_rfl) mo (Nat.le_of_ble_eq_true rfl) ?_
  simp -implicitDefEqProofs (disch := omega) only [go_sem, Tryz.ntmps22]
  refine branch_mk (fun h0 => ?_) (fun h0 => ?_)
  · rw [decide_eq_false (fun e => by rw [e] at h0; exact h0 rfl)]
    simp -implicitDefEqProofs (disch := omega) only [go_sem, Tryz.results22]
  have hl : a.length = b.length := by omega
  simp -implicitDefEqProofs (disch := omega) only [go_sem]
  refine loopC_mk (fun n E σ => ∃ i : Nat, i + n = a.length ∧ a.take i = b.take i ∧ E 0 = BL a ∧ E 1 = BL b ∧ E 5 = I i) a.length ⟨0, by omega, rfl, ?_⟩ ?_
  · simp -implicitDefEqProofs (disch := omega) only [go_sem]
    rfl
  rintro n E σ ⟨i, hn, ht, e0, e1, e5⟩
  simp -implicitDefEqProofs (disch := omega) only [go_sem, e0, e1, e5]
  refine branch_mk (fun hc => ?_) (fun hc => ?_)
  · simp -implicitDefEqProofs (disch := omega) only [go_sem, e0, e1, e5]
    have hi : i < b.length := by omega
    refine branch_mk (fun hb => ?_) (fun hb => ?_)
    · have hne : gd a i ≠ gd b i := fun e => by rw [e] at hb; simp at hb
      rw [decide_eq_false (take_ne hne)]
      simp -implicitDefEqProofs (disch := omega) only [go_sem, Tryz.results22]
    · have he : gd a i = gd b i := by
        generalize gd a i = x at *
        generalize gd b i = y at *
        cases x; cases y; simp_all
      simp -implicitDefEqProofs (disch := omega) only [go_sem, e0, e1, e5]
      refine againQ_mk (a.length - (i + 1)) (by omega) ⟨i + 1, by omega, take_ext hl (by omega) ht he, ?_⟩
      simp -implicitDefEqProofs (disch := omega) only [go_sem, e0, e1, e5]
      rfl
  · obtain rfl : i = a.length := by omega
    rw [List.take_length, List.take_of_length_le (by omega)] at ht
    rw [decide_eq_true ht]
    simp -implicitDefEqProofs (disch := omega) only [go_sem, Tryz.results22]
theorem sameR_ev (a b : List Rg) (la : a.length ≤ 1000000000) (lb : b.length ≤ 1000000000) : Ev Tryz.prog 23 [RL a, RL b] (B (decide (a = b))) := by
  refine ev_of Tryz.func23 rfl (by kernel_rfl) mo (Nat.le_of_ble_eq_true rfl) ?_
  simp -implicitDefEqProofs (disch := omega) only [go_sem, Tryz.ntmps23]
  refine branch_mk (fun h0 => ?_) (fun h0 => ?_)
  · rw [decide_eq_false (fun e => by rw [e] at h0; exact h0 rfl)]
    simp -implicitDefEqProofs (disch := omega) only [go_sem, Tryz.results23]
  have hl : a.length = b.length := by omega
  simp -implicitDefEqProofs (disch := omega) only [go_sem]
  refine loopC_mk (fun n E σ => ∃ i : Nat, i + n = a.length ∧ a.take i = b.take i ∧ E 0 = RL a ∧ E 1 = RL b ∧ E 5 = I i) a.length ⟨0, by omega, rfl, ?_⟩ ?_
  · simp -implicitDefEqProofs (disch := omega) only [go_sem]
    rfl
  rintro n E σ ⟨i, hn, ht, e0, e1, e5⟩
  simp -implicitDefEqProofs (disch := omega) only [go_sem, e0, e1, e5]
  refine branch_mk (fun hc => ?_) (fun hc => ?_)
  · simp -implicitDefEqProofs (disch := omega) only [go_sem, e0, e1, e5]
    have hi : i < b.length := by omega
    refine branch_mk (fun hb => ?_) (fun hb => ?_)
    · have hne : gd a i ≠ gd b i := fun e => by rw [e] at hb; simp at hb
      rw [decide_eq_false (take_ne hne)]
      simp -implicitDefEqProofs (disch := omega) only [go_sem, Tryz.results23]
    · have he : gd a i = gd b i := by
        generalize gd a i = x at *
        generalize gd b i = y at *
        cases x; cases y; simp_all
      simp -implicitDefEqProofs (disch := omega) only [go_sem, e0, e1, e5]
      refine againQ_mk (a.length - (i + 1)) (by omega) ⟨i + 1, by omega, take_ext hl (by omega) ht he, ?_⟩
      simp -implicitDefEqProofs (disch := omega) only [go_sem, e0, e1, e5]
      rfl
  · obtain rfl : i = a.length := by omega
    rw [List.take_length, List.take_of_length_le (by omega)] at ht
    rw [decide_eq_true ht]
    simp -implicitDefEqProofs (disch := omega) only [go_sem, Tryz.results23]
theorem sameU_ev (a b : List Up) (la : a.length ≤ 1000000000) (lb : b.length ≤ 1000000000) : Ev Tryz.prog 11 [UPS a, UPS b] (B (decide (a = b))) := by
  refine ev_of Tryz.func11 rfl (by kernel_rfl) mo (Nat.le_of_ble_eq_true rfl) ?_
  simp -implicitDefEqProofs (disch := omega) only [go_sem, Tryz.ntmps11]
  refine branch_mk (fun h0 => ?_) (fun h0 => ?_)
  · rw [decide_eq_false (fun e => by rw [e] at h0; exact h0 rfl)]
    simp -implicitDefEqProofs (disch := omega) only [go_sem, Tryz.results11]
  have hl : a.length = b.length := by omega
  simp -implicitDefEqProofs (disch := omega) only [go_sem]
  refine loopC_mk (fun n E σ => ∃ i : Nat, i + n = a.length ∧ a.take i = b.take i ∧ E 0 = UPS a ∧ E 1 = UPS b ∧ E 5 = I i) a.length ⟨0, by omega, rfl, ?_⟩ ?_
  · simp -implicitDefEqProofs (disch := omega) only [go_sem]
    rfl
  rintro n E σ ⟨i, hn, ht, e0, e1, e5⟩
  simp -implicitDefEqProofs (disch := omega) only [go_sem, e0, e1, e5]
  refine branch_mk (fun hc => ?_) (fun hc => ?_)
  · simp -implicitDefEqProofs (disch := omega) only [go_sem, e0, e1, e5]
    have hi : i < b.length := by omega
    refine branch_mk (fun hb => ?_) (fun hb => ?_)
    · have hne : gd a i ≠ gd b i := fun e => by rw [e] at hb; simp at hb
      rw [decide_eq_false (take_ne hne)]
      simp -implicitDefEqProofs (disch := omega) only [go_sem, Tryz.results11]
    · have he : gd a i = gd b i := by
        generalize gd a i = x at *
        generalize gd b i = y at *
        cases x; cases y; simp_all
      simp -implicitDefEqProofs (disch := omega) only [go_sem, e0, e1, e5]
      refine againQ_mk (a.length - (i + 1)) (by omega) ⟨i + 1, by omega, take_ext hl (by omega) ht he, ?_⟩
      simp -implicitDefEqProofs (disch := omega) only [go_sem, e0, e1, e5]
      rfl
  · obtain rfl : i = a.length := by omega
    rw [List.take_length, List.take_of_length_le (by omega)] at ht
    rw [decide_eq_true ht]
    simp -implicitDefEqProofs (disch := omega) only [go_sem, Tryz.results11]
theorem sameI_ev (a b : List Int) (la : a.length ≤ 1000000000) (lb : b.length ≤ 1000000000) : Ev Tryz.prog 31 [SL a, SL b] (B (decide (a = b))) := by
  refine ev_of Tryz.func31 rfl (by kernel_rfl) mo (Nat.le_of_ble_eq_true rfl) ?_
  simp -implicitDefEqProofs (disch := omega) only [go_sem, Tryz.ntmps31]
  refine branch_mk (fun h0 => ?_) (fun h0 => ?_)
  · rw [decide_eq_false (fun e => by rw [e] at h0; exact h0 rfl)]
    simp -implicitDefEqProofs (disch := omega) only [go_sem, Tryz.results31]
  have hl : a.length = b.length := by omega
  simp -implicitDefEqProofs (disch := omega) only [go_sem]
  refine loopC_mk (fun n E σ => ∃ i : Nat, i + n = a.length ∧ a.take i = b.take i ∧ E 0 = SL a ∧ E 1 = SL b ∧ E 5 = I i) a.length ⟨0, by omega, rfl, ?_⟩ ?_
  · simp -implicitDefEqProofs (disch := omega) only [go_sem]
    rfl
  rintro n E σ ⟨i, hn, ht, e0, e1, e5⟩
  simp -implicitDefEqProofs (disch := omega) only [go_sem, e0, e1, e5]
  refine branch_mk (fun hc => ?_) (fun hc => ?_)
  · simp -implicitDefEqProofs (disch := omega) only [go_sem, e0, e1, e5]
    have hi : i < b.length := by omega
    refine branch_mk (fun hb => ?_) (fun hb => ?_)
    · have hne : gd a i ≠ gd b i := fun e => by rw [e] at hb; simp at hb
      rw [decide_eq_false (take_ne hne)]
      simp -implicitDefEqProofs (disch := omega) only [go_sem, Tryz.results31]
    · have he : gd a i = gd b i := by simpa using hb
      simp -implicitDefEqProofs (disch := omega) only [go_sem, e0, e1, e5]
      refine againQ_mk (a.length - (i + 1)) (by omega) ⟨i + 1, by omega, take_ext hl (by omega) ht he, ?_⟩
      simp -implicitDefEqProofs (disch := omega) only [go_sem, e0, e1, e5]
      rfl
  · obtain rfl : i = a.length := by omega
    rw [List.take_length, List.take_of_length_le (by omega)] at ht
    rw [decide_eq_true ht]
    simp -implicitDefEqProofs (disch := omega) only [go_sem, Tryz.results31]
end Go.Proofs.YthkihocapdfonaaGreatDoor
set_option maxRecDepth 100000
namespace Go.Proofs.YthkihocapdfonaaGreatDoor
open Go.Vai Go Go.Proofs
open Nat (reduceEqDiff reduceMul reduceAdd reduceDiv reduceLeDiff)
open Int (reduceToNat reduceNe reduceEq reduceLT reduceLE)
theorem pick13_ev (c n : Int) (hc : R64 c) (hn : 0 < n) : Ev Tryz.prog 59 [I c, I n] (I (pickF c n)) := by
  obtain ⟨h1, h2⟩ := hc
  refine ev_of Tryz.func59 rfl (by kernel_rfl) mo (Nat.le_of_ble_eq_true rfl) ?_
  simp -implicitDefEqProofs (disch := omega) only [go_sem, Tryz.ntmps59]
  refine branch_mk (fun h => ?_) (fun h => ?_) <;> simp -implicitDefEqProofs (disch := omega) only [go_sem, Tryz.results59]
  · rw [show (0 - (c+1)) = -(c+1) from by omega]; simp [pickF, h]
  · simp [pickF, h]
theorem pick23_ev (c n : Int) (hc : R64 c) (hn : 0 < n) : Ev Tryz.prog 38 [I c, I n] (I (pickF c n)) := by
  obtain ⟨h1, h2⟩ := hc
  refine ev_of Tryz.func38 rfl (by kernel_rfl) mo (Nat.le_of_ble_eq_true rfl) ?_
  simp -implicitDefEqProofs (disch := omega) only [go_sem, Tryz.ntmps38]
  refine branch_mk (fun h => ?_) (fun h => ?_) <;> simp -implicitDefEqProofs (disch := omega) only [go_sem, Tryz.results38]
  · rw [show (0 - (c+1)) = -(c+1) from by omega]; simp [pickF, h]
  · simp [pickF, h]
theorem pick_ev (c n : Int) (hc : R64 c) (hn : 0 < n) : Ev Tryz.prog 9 [I c, I n] (I (pickF c n)) := by
  obtain ⟨h1, h2⟩ := hc
  refine ev_of Tryz.func9 rfl (by kernel_rfl) mo (Nat.le_of_ble_eq_true rfl) ?_
  simp -implicitDefEqProofs (disch := omega) only [go_sem, Tryz.ntmps9]
  refine branch_mk (fun h => ?_) (fun h => ?_) <;> simp -implicitDefEqProofs (disch := omega) only [go_sem, Tryz.results9]
  · rw [show (0 - (c+1)) = -(c+1) from by omega]; simp [pickF, h]
  · simp [pickF, h]
theorem piece_ev (a b : Int) (ha : R64 a) (hb : R64 b) : Ev Tryz.prog 39 [I a, I b] (RP (pieceF a b)) := by
  have p1 := pickF_in (c := a) (n := 60) (by omega)
  have p2 := pickF_in (c := b) (n := 60 - pickF a 60) (by omega)
  have e1 := pick13_ev a 60 ha (by omega)
  have e2 := pick13_ev b (60 - pickF a 60) hb (by omega)
  have e3 := pick13_ev a 8 ha (by omega)
  unfold pieceF
  generalize pickF a 60 = u at *
  generalize pickF b (60 - u) = v at *
  generalize pickF a 8 = w at *
  refine ev_of Tryz.func39 rfl (by kernel_rfl) mo (Nat.le_of_ble_eq_true rfl) ?_
  simp -implicitDefEqProofs (disch := omega) only [go_sem, Tryz.ntmps39]
  refine callC_at e1 ?_
  simp -implicitDefEqProofs (disch := omega) only [go_sem]
  refine callC_at e2 ?_
  simp -implicitDefEqProofs (disch := omega) only [go_sem]
  refine callC_at e3 ?_
  simp -implicitDefEqProofs (disch := omega) only [go_sem]
  refine branch_mk (fun h => ?_) (fun h => ?_)
  · rw [if_pos h]
    simp -implicitDefEqProofs (disch := omega) only [go_sem, h, Tryz.results39]
  · rw [if_neg h]
    simp -implicitDefEqProofs (disch := omega) only [go_sem, h, Tryz.results39]
abbrev QP (q : Q4) : AV := .agg [I q.a, I q.b, I q.c, I q.d]
abbrev QL (x : List Q4) : AV := .sl 4 (x.map QP)
def Q4.ok (q : Q4) : Prop := R64 q.a ∧ R64 q.b ∧ R64 q.c ∧ R64 q.d
section
variable (p : Nat → Bool) (l : List Q4)
@[go_sem] theorem namesL_QP : AV.namesL p (l.map QP) = false := namesL_map p l QP fun _ => rfl
@[go_sem] theorem flatL_QP : AV.flatL (l.map QP) = true := flatL_map l QP fun _ => rfl
@[go_sem] theorem allOK_QP : allOK 4 (l.map QP) = true := allOK_map 4 l QP fun _ => ⟨rfl, rfl⟩
end
def tmU : List Q4 → Int → Int
  | [], t => t
  | x :: l, t => tmU l (t + pickF x.d 4)
theorem tmU_in : ∀ (l : List Q4) (t : Int), t ≤ tmU l t ∧ tmU l t ≤ t + 3 * l.length
  | [], t => by simp [tmU]
  | x :: l, t => by
    have h := pickF_in (c := x.d) (n := 4) (by omega)
    have ih := tmU_in l (t + pickF x.d 4)
    rw [tmU, List.length_cons]
    omega
theorem made_snoc : ∀ (l : List Q4) (t : Int) (x : Q4), madeU (l ++ [x]) t = madeU l t ++ [⟨(pieceF x.a x.b).1, (pieceF x.a x.b).2, pickF x.c 5 - 1, tmU l t + pickF x.d 4⟩] ∧ tmU (l ++ [x]) t = tmU l t + pickF x.d 4
  | [], t, x => ⟨rfl, rfl⟩
  | y :: l, t, x => by
    obtain ⟨h1, h2⟩ := made_snoc l (t + pickF y.d 4) x
    exact ⟨by rw [List.cons_append, madeU, h1, madeU, tmU]; rfl, by rw [List.cons_append, tmU, h2, tmU]⟩
set_option maxHeartbeats 1000000 in
theorem made_ev (x : List Q4) (hx : ∀ q ∈ x, q.ok) (hn : x.length ≤ 9223372036854775807) : Ev Tryz.prog 6 [QL x] (UPS (madeF x)) := by
  refine ev_sl (r := .new 70 4 ((madeF x).map UP)) ?_ _
  refine ev_of Tryz.func6 rfl (by kernel_rfl) mo (Nat.le_of_ble_eq_true rfl) ?_
  simp -implicitDefEqProofs (disch := omega) only [go_sem, Tryz.ntmps6]
  refine loopC_mk (fun n E σ => ∃ i : Nat, i + n = 14 ∧ i ≤ x.length ∧ E 0 = QL x ∧ E 3 = .own 14680112 4 0 i ∧ E 4 = I (tmU (x.take i) 0) ∧ E 5 = I i ∧ σ 14680112 = some ⟨70, 4, (madeU (x.take i) 0).map UP⟩) 14 ⟨0, by omega, by omega, ?_⟩ ?_
  · simp -implicitDefEqProofs (disch := omega) only [go_sem]
    exact ⟨rfl, rfl, rfl⟩
  rintro n E σ ⟨i, hn, hi, e0, e3, e4, e5, m3⟩
  have fin : i = 14 ∨ i = x.length → madeF x = madeU (x.take i) 0 := fun h => by
    unfold madeF
    rcases h with rfl | rfl
    · rfl
    · rw [List.take_length, List.take_of_length_le (by omega)]
  simp -implicitDefEqProofs (disch := omega) only [go_sem, e0, e3, e4, e5, m3]
  have hlen := madeU_len (x.take i) 0
  rw [List.length_take, Nat.min_eq_left hi] at hlen
  refine branch_mk (fun hc => ?_) (fun hc => ?_)
  · simp -implicitDefEqProofs (disch := omega) only [go_sem, e0, e3, e4, e5, m3]
    refine branch_mk (fun hc2 => ?_) (fun hc2 => ?_)
    · have hq := hx _ (gd_mem x i (by omega))
      obtain ⟨hm, htm⟩ := made_snoc (x.take i) 0 (gd x i)
      rw [← take_succ' x i (by omega)] at hm htm
      have htb := tmU_in (x.take i) 0
      have hp1 := pickF_in (c := (gd x i).d) (n := 4) (by omega)
      have hp2 := pickF_in (c := (gd x i).c) (n := 5) (by omega)
      have hlt : (x.take i).length ≤ 14 := by rw [List.length_take]; omega
      have c1 := pick23_ev (gd x i).d 4 hq.2.2.2 (by omega)
      have c2 := piece_ev (gd x i).a (gd x i).b hq.1 hq.2.1
      have c3 := pick23_ev (gd x i).c 5 hq.2.2.1 (by omega)
      generalize pickF (gd x i).d 4 = pd at *
      generalize pickF (gd x i).c 5 = pc at *
      generalize pieceF (gd x i).a (gd x i).b = pr at *
      obtain ⟨pf, pt⟩ := pr
      simp only at hm
      generalize tmU (x.take i) 0 = tm at *
      generalize madeU (x.take i) 0 = o at *
      simp -implicitDefEqProofs (disch := omega) only [go_sem, e0, e3, e4, e5, m3]
      refine callC_at c1 ?_
      simp -implicitDefEqProofs (disch := omega) only [go_sem, e0, e3, e4, e5, m3]
      refine callC_at c2 ?_
      simp -implicitDefEqProofs (disch := omega) only [go_sem, e0, e3, e4, e5, m3]
      refine callC_at c3 ?_
      simp -implicitDefEqProofs (disch := omega) only [go_sem, e0, e3, e4, e5, m3]
      refine againQ_mk (14 - (i + 1)) (by omega) ⟨i + 1, by omega, by omega, ?_⟩
      simp -implicitDefEqProofs (disch := omega) only [go_sem, e0, e3, e4, e5, m3, htm, hm]
      rfl
    · rw [fin (.inl (by omega))]
      simp -implicitDefEqProofs (disch := omega) only [go_sem, e0, e3, e4, e5, m3, Tryz.results6]
  · rw [fin (.inr (by omega))]
    have hlen3 : (madeU x 0).length = i := by rw [madeU_len]; omega
    simp -implicitDefEqProofs (disch := omega) only [go_sem, e0, e3, e4, e5, m3, Tryz.results6]
set_option maxHeartbeats 1000000 in
theorem near_ev (l : List Up) (which n : Int) (hl : l.length ≤ 1000) (hu : ∀ u ∈ l, u.nb) (hw : R64 which) (hn : R64 n) : Ev Tryz.prog 24 [UPS l, I which, I n] (I (nearF l which n)) := by
  refine ev_of Tryz.func24 rfl (by kernel_rfl) mo (Nat.le_of_ble_eq_true rfl) ?_
  simp -implicitDefEqProofs (disch := omega) only [go_sem, Tryz.ntmps24]
  have c0 := pick23_ev n 100000000 hn (by omega)
  have c1 := pick23_ev which 4 hw (by omega)
  unfold nearF
  refine branch_mk (fun h0 => ?_) (fun h0 => ?_)
  · rw [if_pos (.inl (by omega))]
    simp -implicitDefEqProofs (disch := omega) only [go_sem, h0]
    refine callC_at c0 ?_
    simp -implicitDefEqProofs (disch := omega) only [go_sem, Tryz.results24]
  simp -implicitDefEqProofs (disch := omega) only [go_sem, h0]
  refine callC_at c1 ?_
  simp -implicitDefEqProofs (disch := omega) only [go_sem, h0]
  refine branch_mk (fun h1 => ?_) (fun h1 => ?_)
  · rw [if_pos (.inr h1)]
    simp -implicitDefEqProofs (disch := omega) only [go_sem]
    refine callC_at c0 ?_
    simp -implicitDefEqProofs (disch := omega) only [go_sem, Tryz.results24]
  rw [if_neg (fun h => h.elim (fun e => h0 (by omega)) h1)]
  obtain ⟨w1, w2⟩ := hw
  have c2 := pick23_ev (which.tdiv 8) l.length (R64_tdiv (by omega) ⟨w1, w2⟩) (by omega)
  have c3 := pick23_ev (which.tdiv 4) 2 (R64_tdiv (by omega) ⟨w1, w2⟩) (by omega)
  have c4 := pick23_ev n 3 hn (by omega)
  have k1 := pickF_in (c := which.tdiv 8) (n := l.length) (by omega)
  have k2 := pickF_in (c := n) (n := 3) (by omega)
  have k3 := pickF_in (c := which.tdiv 4) (n := 2) (by omega)
  obtain ⟨⟨u1, u1'⟩, ⟨u2, u2'⟩, _, _⟩ := hu _ (gd_mem l (pickF (which.tdiv 8) l.length).toNat (by omega))
  generalize hk : pickF (which.tdiv 8) l.length = k at *
  generalize pickF n 3 = q at *
  generalize pickF (which.tdiv 4) 2 = e at *
  simp -implicitDefEqProofs (disch := omega) only [go_sem, h0]
  refine callC_at c2 ?_
  simp -implicitDefEqProofs (disch := omega) only [go_sem, h0]
  refine callC_at c3 ?_
  simp -implicitDefEqProofs (disch := omega) only [go_sem, h0]
  refine branch_mk (fun h2 => ?_) (fun h2 => ?_)
  · rw [if_pos h2]
    simp -implicitDefEqProofs (disch := omega) only [go_sem]
    refine callC_at c4 ?_
    simp -implicitDefEqProofs (disch := omega) only [go_sem, Tryz.results24]
    rfl
  · rw [if_neg h2]
    simp -implicitDefEqProofs (disch := omega) only [go_sem]
    refine callC_at c4 ?_
    simp -implicitDefEqProofs (disch := omega) only [go_sem, Tryz.results24]
    rfl
end Go.Proofs.YthkihocapdfonaaGreatDoor
set_option maxRecDepth 100000
namespace Go.Proofs.YthkihocapdfonaaGreatDoor
open Go.Vai Go Go.Proofs
open Nat (reduceEqDiff reduceMul reduceAdd reduceDiv reduceLeDiff)
open Int (reduceToNat reduceNe reduceEq reduceLT reduceLE)
theorem pcsN_fuel : ∀ (m n : Nat) (a b : List Bk) (p : Int), (pcsN m a b p).length < m → m ≤ n → pcsN n a b p = pcsN m a b p
  | 0, _, _, _, _, h, _ => by cases h
  | m + 1, 0, _, _, _, _, h => by cases h
  | m + 1, n + 1, a, b, p, h, hn => by
    rw [pcsN, pcsN]
    rw [pcsN] at h
    split
    · rename_i hp
      rw [if_pos hp, List.length_cons] at h
      rw [pcsN_fuel m n _ _ _ (by omega) (by omega)]
    · rfl
theorem cmbF_at (h : Int → Int → Int) (a b : List Bk) (hl : (pcsN 20 a b 0).length < 20) : cmbF h a b = (pcsN 20 a b 0).foldl (cmbS h) [] := by
  unfold cmbF; rw [pcsN_fuel 20 100000000 a b 0 hl (by omega)]
theorem difF_at (a b : List Bk) (hl : (pcsN 20 a b 0).length < 20) : difF a b = (pcsN 20 a b 0).foldl difS [] := by
  unfold difF; rw [pcsN_fuel 20 100000000 a b 0 hl (by omega)]
def EX : List Up := [⟨100, 200, 1, 10⟩, ⟨150, 300, 2, 20⟩, ⟨160, 170, -1, 20⟩]
def M1 : List Bk := [⟨100, 200, 1⟩]
def M2 : List Bk := [⟨100, 150, 1⟩, ⟨150, 300, 2⟩]
def M3 : List Bk := [⟨100, 150, 1⟩, ⟨150, 160, 2⟩, ⟨170, 300, 2⟩]
theorem ex1 : stepU [] ⟨100, 200, 1, 10⟩ = some M1 := by
  show (if (1 : Int) = -1 then takeF [] 100 200 else giveF [] 100 200 1) = _
  rw [if_neg (by decide)]; unfold giveF
  rw [cmbF_at _ _ _ (by decide)]; decide
theorem ex2 : stepU M1 ⟨150, 300, 2, 20⟩ = some M2 := by
  show (if (2 : Int) = -1 then takeF M1 150 300 else giveF M1 150 300 2) = _
  rw [if_neg (by decide)]; unfold giveF
  rw [cmbF_at _ _ _ (by decide)]; decide
theorem ex3 : stepU M2 ⟨160, 170, -1, 20⟩ = some M3 := by
  show (if (-1 : Int) = -1 then takeF M2 160 170 else giveF M2 160 170 (-1)) = _
  rw [if_pos rfl]; unfold takeF
  rw [cmbF_at _ _ _ (by decide)]; decide
theorem exM : mapsF [] EX = [[], M1, M2, M3] := by
  unfold EX
  rw [mapsF, ex1]; simp only
  rw [mapsF, ex2]; simp only
  rw [mapsF, ex3]; simp only
  rw [mapsF]
theorem exV : validT EX = true := by
  refine validT_iff.2 ⟨by decide, by decide, ?_⟩
  rw [exM]; rfl
theorem exD : difF M1 M3 = [(150, 300)] := by
  rw [difF_at _ _ (by decide)]; decide
theorem ex_in (k : Int) (h0 : 0 ≤ k) (h3 : k ≤ 3) : inV EX k := ⟨exV, h0, h3⟩
theorem exEnc : encU ⟨100, 200, 1, 10⟩ = ⟨#[200, 1, 144, 3, 2, 20]⟩ := by decide
theorem ex_bad : validT [⟨0, 0, 0, 0⟩] = false := by
  cases h : validT [⟨0, 0, 0, 0⟩] with
  | false => rfl
  | true =>
    have h3 := (validT_iff.1 h).2.2
    have : stepU [] ⟨0, 0, 0, 0⟩ = none := by
      show (if (0 : Int) = -1 then takeF [] 0 0 else giveF [] 0 0 0) = _
      rw [if_neg (by decide)]; unfold giveF
      rw [if_neg (by decide)]
    rw [mapsF, this] at h3
    cases h3
end Go.Proofs.YthkihocapdfonaaGreatDoor
set_option maxRecDepth 100000
namespace Go.Proofs.YthkihocapdfonaaGreatDoor
open Go.Vai Go Go.Proofs
open Nat (reduceEqDiff reduceMul reduceAdd reduceDiv reduceLeDiff)
open Int (reduceToNat reduceNe reduceEq reduceLT reduceLE)
theorem example_ev : Ev Tryz.prog 36 [] (UPS EX) := by
  refine ev_sl (r := .new 70 4 (EX.map UP)) ?_ _
  refine ev_of Tryz.func36 rfl (by kernel_rfl) mo (Nat.le_of_ble_eq_true rfl) ?_
  simp -implicitDefEqProofs (disch := omega) only [go_sem, Tryz.ntmps36, Tryz.results36]
  rfl
theorem cm3 : Ev Tryz.prog 17 [UPS EX, I 3] (.tup [BL M3, I 0]) := by
  have h := map_ev EX 3 (by decide)
  have e : mapV EX (3 : Int).toNat = M3 := by show gd (mapsF [] EX) 3 = _; rw [exM]; rfl
  rw [if_pos (ex_in 3 (by decide) (by decide)), if_pos (ex_in 3 (by decide) (by decide)), e] at h
  exact h
theorem cm4 : Ev Tryz.prog 17 [UPS EX, I 4] (.tup [BL [], I 230]) := by
  have h := map_ev EX 4 (by decide)
  have e : ¬ inV EX 4 := fun h => by have := h.2.2; revert this; decide
  rw [if_neg e, if_neg e] at h
  exact h
theorem chd (k : Nat) (hk : k ≤ 3) : Ev Tryz.prog 25 [UPS EX, I 165, I k] (.tup [I (heldV EX 165 k), I 0]) := by
  have h := held_ev EX 165 k (by decide)
  have e : inV EX k ∧ (0 : Int) ≤ 165 ∧ (165 : Int) ≤ 99999999 := ⟨ex_in k (by omega) (by omega), by decide, by decide⟩
  rw [if_pos e, if_pos e, Int.toNat_natCast] at h
  exact h
theorem cs1 : Ev Tryz.prog 27 [UPS EX, I 100, I 3] (.tup [I 1, I 0]) := by
  have h := since_ev EX 100 3 (by decide)
  have e : inV EX 3 ∧ inN 100 := ⟨ex_in 3 (by decide) (by decide), by decide⟩
  rw [if_pos e, if_pos e, show sinF EX 100 (3 : Int).toNat = 1 from by decide] at h
  exact h
theorem cs2 : Ev Tryz.prog 27 [UPS EX, I 165, I 3] (.tup [I 3, I 0]) := by
  have h := since_ev EX 165 3 (by decide)
  have e : inV EX 3 ∧ inN 165 := ⟨ex_in 3 (by decide) (by decide), by decide⟩
  rw [if_pos e, if_pos e, show sinF EX 165 (3 : Int).toNat = 3 from by decide] at h
  exact h
theorem cvn (t n : Int) (h0 : 0 ≤ t ∧ t ≤ 10000000) (hn : ((atF EX t : Nat) : Int) = n) : Ev Tryz.prog 32 [UPS EX, I t] (.tup [I n, I 0]) := by
  have h := version_ev EX t (by decide)
  have e : inT EX t 0 := ⟨h0, by decide, exV⟩
  rw [if_pos e, if_pos e, hn] at h
  exact h
theorem ckn (t lag m n : Int) (h0 : 0 ≤ t ∧ t ≤ 10000000) (h1 : 0 ≤ lag ∧ lag ≤ 100000) (hm : ((atF EX (t - lag) : Nat) : Int) = m) (hn : ((atF EX t : Nat) : Int) = n) : Ev Tryz.prog 34 [UPS EX, I t, I lag] (.tup [I m, I n, I 0]) := by
  have h := known_ev EX t lag (by decide)
  have e : inT EX t lag := ⟨h0, h1, exV⟩
  rw [if_pos e, if_pos e, if_pos e, hn, hm] at h
  exact h
theorem cbw : Ev Tryz.prog 29 [UPS EX, I 165, I 1, I 3] (.tup [SL [-1, 1, 2], I 0]) := by
  have h := between_ev EX 165 1 3 (by decide)
  have e : inB EX 165 1 3 := ⟨⟨exV, by decide⟩, by decide, by decide⟩
  rw [if_pos e, if_pos e, show betF EX 165 (1 : Int).toNat (3 : Int).toNat = [-1, 1, 2] from by decide] at h
  exact h
theorem cdf : Ev Tryz.prog 19 [UPS EX, I 1, I 3] (.tup [RL [(150, 300)], I 0]) := by
  have h := tdiffer_ev EX 1 3 (by decide)
  have e : inV EX 1 ∧ inV EX 3 := ⟨ex_in 1 (by decide) (by decide), ex_in 3 (by decide) (by decide)⟩
  have e1 : mapV EX (1 : Int).toNat = M1 := by show gd (mapsF [] EX) 1 = _; rw [exM]; rfl
  have e3 : mapV EX (3 : Int).toNat = M3 := by show gd (mapsF [] EX) 3 = _; rw [exM]; rfl
  rw [if_pos e, if_pos e, e1, e3, exD] at h
  exact h
def exH : ByteArray := chainF zero32 ⟨#[200, 1, 144, 3, 2, 20]⟩
theorem chead : Ev Tryz.prog 10 [UPS EX, I 1] (.tup [Str exH, I 0]) := by
  have h := head_ev EX 1 (by decide)
  have e : headN EX (1 : Int).toNat = exH := by
    show chainF zero32 (encU (gd EX 0)) = _
    rw [show gd EX 0 = ⟨100, 200, 1, 10⟩ from rfl, exEnc]; rfl
  rw [if_pos (ex_in 1 (by decide) (by decide)), if_pos (ex_in 1 (by decide) (by decide)), e] at h
  exact h
theorem cchain : Ev Tryz.prog 37 [Str zero32, Str ⟨#[200, 1, 144, 3, 2, 20]⟩] (Str exH) := chain_ev _ _ (by decide)
theorem exH_size : exH.size = 32 := shaF_size _
theorem cbad : Ev Tryz.prog 8 [UPS [⟨0, 0, 0, 0⟩]] (B false) := by
  have h := tvalid_ev [⟨0, 0, 0, 0⟩] (by decide)
  rw [ex_bad] at h; exact h
theorem cgood : Ev Tryz.prog 8 [UPS EX] (B true) := by
  have h := tvalid_ev EX (by decide)
  rw [exV] at h; exact h
set_option maxHeartbeats 4000000 in
theorem sane_ev : Ev Tryz.prog 5 [] (B true) := by
  have hsz := exH_size
  have cH := cchain
  have cD := chead
  generalize exH = H at *
  refine ev_of Tryz.func5 rfl (by kernel_rfl) mo (Nat.le_of_ble_eq_true rfl) ?_
  simp -implicitDefEqProofs (disch := omega) only [go_sem, Tryz.ntmps5]
  refine callC_at example_ev ?_
  simp -implicitDefEqProofs (disch := omega) only [go_sem]
  refine callC_at cm3 ?_
  simp -implicitDefEqProofs (disch := omega) only [go_sem]
  refine callC_at (sameB_ev M3 M3 (by decide) (by decide)) ?_
  simp -implicitDefEqProofs (disch := omega) only [go_sem]
  refine loopC_mk (fun n E σ => ∃ i : Nat, i + n = 4 ∧ E 1 = UPS EX ∧ E 5 = I i) 4 ⟨0, by omega, ?_⟩ ?_
  · simp -implicitDefEqProofs (disch := omega) only [go_sem]
    rfl
  rintro n E σ ⟨i, hn, e1, e5⟩
  simp -implicitDefEqProofs (disch := omega) only [go_sem, e1, e5]
  refine branch_mk (fun hc => ?_) (fun hc => ?_)
  · have hcases : i = 0 ∨ i = 1 ∨ i = 2 ∨ i = 3 := by omega
    simp -implicitDefEqProofs (disch := omega) only [go_sem, e1, e5]
    refine callC_at (chd i (by omega)) ?_
    rcases hcases with rfl | rfl | rfl | rfl
    · rw [show heldV EX 165 0 = -1 from by decide]
      simp -implicitDefEqProofs (disch := omega) only [go_sem, e1, e5]
      refine againQ_mk 3 (by omega) ⟨1, by omega, ?_⟩
      simp -implicitDefEqProofs (disch := omega) only [go_sem, e1, e5]
      rfl
    · rw [show heldV EX 165 1 = 1 from by decide]
      simp -implicitDefEqProofs (disch := omega) only [go_sem, e1, e5]
      refine againQ_mk 2 (by omega) ⟨2, by omega, ?_⟩
      simp -implicitDefEqProofs (disch := omega) only [go_sem, e1, e5]
      rfl
    · rw [show heldV EX 165 2 = 2 from by decide]
      simp -implicitDefEqProofs (disch := omega) only [go_sem, e1, e5]
      refine againQ_mk 1 (by omega) ⟨3, by omega, ?_⟩
      simp -implicitDefEqProofs (disch := omega) only [go_sem, e1, e5]
      rfl
    · rw [show heldV EX 165 3 = -1 from by decide]
      simp -implicitDefEqProofs (disch := omega) only [go_sem, e1, e5]
      refine againQ_mk 0 (by omega) ⟨4, by omega, ?_⟩
      simp -implicitDefEqProofs (disch := omega) only [go_sem, e1, e5]
      rfl
  simp -implicitDefEqProofs (disch := omega) only [go_sem, e1]
  refine callC_at cs1 ?_
  simp -implicitDefEqProofs (disch := omega) only [go_sem, e1]
  refine callC_at cs2 ?_
  simp -implicitDefEqProofs (disch := omega) only [go_sem, e1]
  refine callC_at (cvn 9 0 (by decide) (by decide)) ?_
  simp -implicitDefEqProofs (disch := omega) only [go_sem, e1]
  refine callC_at (cvn 10 1 (by decide) (by decide)) ?_
  simp -implicitDefEqProofs (disch := omega) only [go_sem, e1]
  refine callC_at (cvn 20 3 (by decide) (by decide)) ?_
  simp -implicitDefEqProofs (disch := omega) only [go_sem, e1]
  refine callC_at (ckn 25 5 3 3 (by decide) (by decide) (by decide) (by decide)) ?_
  simp -implicitDefEqProofs (disch := omega) only [go_sem, e1]
  refine callC_at (ckn 25 6 1 3 (by decide) (by decide) (by decide) (by decide)) ?_
  simp -implicitDefEqProofs (disch := omega) only [go_sem, e1]
  refine callC_at cbw ?_
  simp -implicitDefEqProofs (disch := omega) only [go_sem, e1]
  refine callC_at cdf ?_
  simp -implicitDefEqProofs (disch := omega) only [go_sem, e1]
  refine callC_at cD ?_
  simp -implicitDefEqProofs (disch := omega) only [go_sem, e1]
  refine toStr_mk (List.replicate 32 0) (by simp -implicitDefEqProofs (disch := omega) only [go_sem]; rfl) (by intro b; simp -implicitDefEqProofs (disch := omega) only [go_sem]; intro e; cases e) (e := 5) rfl rfl rfl ?_
  rw [z32]
  simp -implicitDefEqProofs (disch := omega) only [go_sem, e1]
  refine callC_at cH ?_
  simp -implicitDefEqProofs (disch := omega) only [go_sem, e1]
  refine callC_at cm4 ?_
  simp -implicitDefEqProofs (disch := omega) only [go_sem, e1]
  refine callC_at (sameI_ev [-1, 1, 2] [-1, 1, 2] (by decide) (by decide)) ?_
  simp -implicitDefEqProofs (disch := omega) only [go_sem, e1]
  refine callC_at (sameR_ev [(150, 300)] [(150, 300)] (by decide) (by decide)) ?_
  simp -implicitDefEqProofs (disch := omega) only [go_sem, e1]
  refine branch_l (by omega) ?_
  simp -implicitDefEqProofs (disch := omega) only [go_sem, e1]
  refine callC_at cgood ?_
  simp -implicitDefEqProofs (disch := omega) only [go_sem, e1, hsz]
  refine callC_at cbad ?_
  simp -implicitDefEqProofs (disch := omega) only [go_sem, Tryz.results5]
end Go.Proofs.YthkihocapdfonaaGreatDoor
set_option maxRecDepth 100000
namespace Go.Proofs.YthkihocapdfonaaGreatDoor
open Go.Vai Go Go.Proofs
open Nat (reduceEqDiff reduceMul reduceAdd reduceDiv reduceLeDiff)
open Int (reduceToNat reduceNe reduceEq reduceLT reduceLE)
section
variable {l : List Up} (h : validT l = true)
include h
end
end Go.Proofs.YthkihocapdfonaaGreatDoor
set_option maxRecDepth 100000
namespace Go.Vai
open Go.RowKit Go.ChangeShapes Go.WideShapes
theorem liftedG {H : Type} {enc : TypeId × Value → H} {C : Checked} {os : Os} {f : FuncId} {fn : Func} {s : ChangeSpec} {conds : List PathCond} {fresh handsOn : Bool} {tb : TypeId} {ps : List (AV → Prop)} {X : World → Array Value → Prop}
    (hX : ∀ (w w' : World) (args : Array Value), w.heap = w'.heap → X w args → X w' args)
    (own : ownKnob C.prog.godebug = none) (started : os.Started) (noInit : C.prog.inits.idxOf? f = none) (hfn : C.prog.funcs[f]? = some fn)
    (witness : ∃ (w : World) (tape : Tape) (i : Input), w.os = os ∧ (w.forCall tape i).Shaped C.prog ∧ i.vars = [] ∧ Input.okWide C.prog (w.forCall tape i) .any w.heap.size f i ∧
      ((s.pre enc C.prog fn conds false (w.forCall tape i).memory i.args ∧ X (w.forCall tape i).memory i.args) ∧ sizedMet enc C.prog fn (OpenSpec.ofChange s) false (w.forCall tape i).memory i.args) ∧ ({} : Assume).holds C.prog (lone (Frame.enter C.prog f i.args .normal) [] (w.forCall tape i)))
    (hl : laidOutB C.prog = true) (hr : (fn.params.toList.all fun t => C.prog.readableRec t && decide (t < C.prog.types.size)) = true) (hrt : fn.resultTypes = #[tb]) (htb : C.prog.underlying tb = some .bool) (hvars : s.vars = [])
    (hs : ∀ ds : List (DataW H), ds.length = fn.params.size → s.fn H ds = { results := [.lit (.bool true)], args := ds })
    (hop : ∀ w : World, OpensAll C.prog enc w fn.params.toList ps) (hev : ∀ avs, AllP ps avs → Ev C.prog f avs (.v (.bool true))) (hgt : ∀ (w : World) (args : Array Value), X w args → GOK w (Here w)) :
    ReturnsInHanded {} C os f .any (fun w args => (s.pre enc C.prog fn conds false w args ∧ X w args) ∧ sizedMet enc C.prog fn (OpenSpec.ofChange s) false w args) (s.post enc C.prog fn false fresh handsOn false) := by
  refine returnsInHanded_of_change_and (C := C) (X := X) hX own started noInit hfn witness ?_
  intro W base args ds gs before hval hW _ _ hL _
  obtain ⟨p, q, hA, hV, e, hfz, hnd⟩ := hW
  obtain ⟨avs, has, hrep⟩ := opens_args (hop W) hA (fun j t v hj hv => hval j t v (by simpa using hj) (by simpa using hv))
  have := (hev avs has avs _ ⟨rfl, rfl⟩).2 W (Here W) args.toList (fun b hb => hb) (hgt W args hL) hrep
  refine (this.mono ?_)
  rintro e' W' ⟨y, rfl, hx, Im', _, _, hR⟩
  obtain ⟨ob, h1, _⟩ := hR
  have hy : y = .bool true := by
    unfold R1 at h1
    cases h1.2 with | v => rfl
  subst hy
  exact ⟨_, rfl, post_true hl (fun t ht => by simpa using List.all_eq_true.1 hr t ht) hrt htb hvars hs ⟨p, q, hA, hV, e, hfz, hnd⟩ hx⟩
end Go.Vai
namespace Go.Proofs.YthkihocapdfonaaGreatDoor
open Go.Vai Go Go.Proofs Go.RowKit
open Nat (reduceEqDiff reduceMul reduceAdd reduceDiv reduceLeDiff)
open Int (reduceToNat reduceNe reduceEq reduceLT reduceLE)
theorem own3 : ownKnob Tryz.checked.prog.godebug = none := by kernel_rfl
theorem laidOut3 : laidOutB Tryz.checked.prog = true := by kernel_rfl
abbrev laid3 : List (String × DataW Unit) := [("dialtone/digest.round", Rows.laid_dialtone_digest_round)]
theorem gRound : Tryz.prog.globalNamed "dialtone/digest.round" = some 0 := by kernel_rfl
def roundL : List Int := (gtab.headD (0, [])).2.map fun v => match v with | .int _ n => n | _ => 0
theorem gtab_eq : gtab = [(0, roundL.map (Value.int .u32))] := by kernel_rfl
theorem laid_eq : (Rows.laid_dialtone_digest_round : DataW Unit) = .agg (roundL.map fun n => .lit (.int .u32 n)) := by kernel_rfl
theorem round_cells {W : World} (h : laidMetH Tryz.prog laid3 W) : ∀ (i : Nat) (v : Value), (roundL.map (Value.int .u32))[i]? = some v → W.cell? ⟨0, i, none⟩ = some v := by
  rw [MakeChecks.laidMetH_plain _ _ _ (by kernel_rfl)] at h
  obtain ⟨ps, ⟨g0, t0, cs0, f0, p0, q0, hg0, ht0, hv0, hd0, _, _⟩, _, _⟩ := h
  obtain rfl := Option.some.inj (gRound.symm.trans hg0)
  have tR : (Tryz.prog.globals[0]?).map (·.type) = some t0 := ht0
  intro i v hv
  rw [World.var?_cell hg0 hv0 i]
  have t79 : t0 = 168 := by
    have : (Tryz.prog.globals[0]?).map (·.type) = some 168 := by kernel_rfl
    exact Option.some.inj (tR.symm.trans this)
  subst t79
  obtain ⟨xs, m1, rfl, hx1, hlen, hn, hel⟩ := DataW.trod_array (n := 64) (e := 99) (by kernel_rfl) hd0
  have c1 : Tryz.prog.cellsOf 99 = 1 := by kernel_rfl
  simp only [Prod.mk.injEq] at hx1
  have hx := hx1.1
  rw [laid_eq] at hx
  simp only [DataW.agg.injEq] at hx
  have hrl : roundL.length = 64 := by kernel_rfl
  have hi : i < 64 := by
    have := (List.getElem?_eq_some_iff.1 hv).1
    rw [List.length_map, hrl] at this; exact this
  have h1 := hel i hi
  rw [c1, Nat.mul_one] at h1
  cases hxi : xs[i]? with
  | none => rw [List.getElem?_eq_none_iff] at hxi; omega
  | some x =>
    rw [hxi] at h1
    obtain ⟨n, e1, e2, _⟩ := DataW.trod_int (k := .u32) (by kernel_rfl) h1
    have h2 : (xs.map (·.1))[i]? = some x.1 := by rw [List.getElem?_map, hxi]; rfl
    rw [← hx, List.getElem?_map] at h2
    obtain ⟨r, hr, hr2⟩ := Option.map_eq_some_iff.1 h2
    rw [List.getElem?_map, hr] at hv
    have hv := Option.some.inj hv
    rw [e2] at hr2
    simp only [DataW.lit.injEq, Lit.int.injEq, true_and] at hr2
    have h3 : (cs0.toList.drop i)[0]? = some (.int .u32 n) := by
      have : ((cs0.toList.drop i).take 1)[0]? = some (.int .u32 n) := by rw [e1]; rfl
      rwa [List.getElem?_take, if_pos (by omega)] at this
    rw [List.getElem?_drop, Nat.add_zero] at h3
    rw [← Array.getElem?_toList, h3, ← hv, hr2]
theorem gok {W : World} (h : laidMetH Tryz.prog laid3 W) : GOK W (Here W) := by
  intro p hp
  rw [gtab_eq, List.mem_singleton] at hp
  subst hp
  have hc := round_cells h
  refine ⟨?_, fun i v hv => ⟨hc i v hv, ?_⟩⟩
  · have h0 : (roundL.map (Value.int .u32))[0]? = some (.int .u32 (gd roundL 0)) := by kernel_rfl
    have := hc 0 _ h0
    show 0 < W.heap.size
    rcases Nat.eq_zero_or_pos W.heap.size with h1 | h1
    · have : W.heap[0]? = none := Array.getElem?_eq_none (by omega)
      simp [World.cell?, this] at *
    · exact h1
  · obtain ⟨r, _, rfl⟩ := List.mem_map.1 (List.mem_of_getElem? hv)
    rfl
theorem door_met (os : Os) (args : Array Value) : laidMetH Tryz.prog laid3 ((World.doorLaid Tryz.prog 14 os).forCall (fun _ _ => 0) ⟨#[], args, []⟩).memory :=
  laidMetH_of_parts3 (fuel := 8) (laidMet_of_run' 8 (by kernel_rfl) (by kernel_rfl)) (by kernel_rfl) (by kernel_rfl)
section
variable {H : Type} {enc : TypeId × Value → H} {w : World}
def OI (a : AV) : Prop := ∃ n, R64 n ∧ a = I n
theorem wf64 {n : Int} : (Lit.int .i64 n).wf = true ↔ R64 n := by
  have h1 : IntKind.i64.min = -9223372036854775808 := by decide
  have h2 : IntKind.i64.max = 9223372036854775807 := by decide
  simp [Lit.wf, R64, h1, h2]
theorem o_int {t : TypeId} (ht : Tryz.prog.underlying t = some (.int .i64)) : Opens Tryz.prog enc w t OI :=
  (opens_int ht).mono (fun a ⟨n, h, e⟩ => ⟨n, wf64.1 h, e⟩) fun a ⟨n, h, e⟩ => ⟨n, wf64.2 h, e⟩
def OQ (a : AV) : Prop := ∃ l : List Q4, l.length ≤ 9223372036854775807 ∧ (∀ x ∈ l, x.ok) ∧ a = QL l
def OQ1 (a : AV) : Prop := ∃ x : Q4, x.ok ∧ a = QP x
theorem o_four : Opens Tryz.prog enc w 71 OQ1 :=
  (opens_array (T := Int) (q := R64) (f := I) (e := 3) (n := 4) (sz := 1) (by kernel_rfl) (by kernel_rfl) (by kernel_rfl) (o_int (by kernel_rfl))).mono
    (fun a ⟨l, h, h1, e⟩ => by
      match l, h with
      | [x, y, z, u], _ => exact ⟨⟨x, y, z, u⟩, ⟨h1 x (by simp), h1 y (by simp), h1 z (by simp), h1 u (by simp)⟩, e⟩)
    fun a ⟨x, h, e⟩ => ⟨[x.a, x.b, x.c, x.d], rfl, by obtain ⟨h1, h2, h3, h4⟩ := h; simp [h1, h2, h3, h4], e⟩
theorem o_fours : Opens Tryz.prog enc w 22 OQ :=
  (opens_slice (T := Q4) (q := Q4.ok) (f := QP) (e := 71) (sz := 4) (by kernel_rfl) (by kernel_rfl) (by decide) o_four).mono
    (fun a ⟨l, h, h1, e⟩ => ⟨l, h, h1, e⟩) fun a ⟨l, h, h1, e⟩ => ⟨l, h, h1, e⟩
end
end Go.Proofs.YthkihocapdfonaaGreatDoor
set_option maxRecDepth 100000
namespace Go.Proofs.YthkihocapdfonaaGreatDoor
open Go.Vai Go Go.Proofs Go.RowKit
open Nat (reduceEqDiff reduceMul reduceAdd reduceDiv reduceLeDiff)
open Int (reduceToNat reduceNe reduceEq reduceLT reduceLE)
section
variable {H : Type} {enc : TypeId × Value → H} {w : World}
def OT (a : AV) : Prop := ∃ x y z : Int, R64 x ∧ R64 y ∧ R64 z ∧ a = .agg [I x, I y, I z]
theorem o_three : Opens Tryz.prog enc w 23 OT :=
  (opens_array (T := Int) (q := R64) (f := I) (e := 3) (n := 3) (sz := 1) (by kernel_rfl) (by kernel_rfl) (by kernel_rfl) (o_int (by kernel_rfl))).mono
    (fun a ⟨l, h, h1, e⟩ => by
      match l, h with
      | [x, y, z], _ => exact ⟨x, y, z, h1 x (by simp), h1 y (by simp), h1 z (by simp), e⟩)
    fun a ⟨x, y, z, h1, h2, h3, e⟩ => ⟨[x, y, z], rfl, by simp [h1, h2, h3], e⟩
end
end Go.Proofs.YthkihocapdfonaaGreatDoor
set_option maxRecDepth 100000
namespace Go.Proofs.YthkihocapdfonaaGreatDoor
open Go.Vai Go Go.Proofs Go.RowKit
open Nat (reduceEqDiff reduceMul reduceAdd reduceDiv reduceLeDiff)
open Int (reduceToNat reduceNe reduceEq reduceLT reduceLE)
section
variable {H : Type} {enc : TypeId × Value → H} {w : World}
def OR1 (a : AV) : Prop := ∃ x y : Int, R64 x ∧ R64 y ∧ a = .agg [I x, I y]
theorem o_range : Opens Tryz.prog enc w 64 OR1 :=
  (opens_struct (ps := [OI, OI]) (Tryz.underlying64) ⟨o_int (by kernel_rfl), o_int (by kernel_rfl), trivial⟩ (by kernel_rfl) (by kernel_rfl)).mono
    (fun a h => by
      obtain ⟨as', ha, rfl⟩ := h
      revert ha
      exact allP_2 (Q := fun l => OR1 (AV.agg (l.flatMap AV.cells))) (fun a b ⟨n, h1, e1⟩ ⟨m, h2, e2⟩ => ⟨n, m, h1, h2, by subst e1; subst e2; rfl⟩) as')
    fun a ⟨x, y, h1, h2, e⟩ => ⟨[I x, I y], ⟨⟨x, h1, rfl⟩, ⟨y, h2, rfl⟩, trivial⟩, e⟩
def Up.r64 (u : Up) : Prop := R64 u.f ∧ R64 u.t ∧ R64 u.c ∧ R64 u.a
def OU1 (a : AV) : Prop := ∃ u : Up, u.r64 ∧ a = UP u
theorem o_up : Opens Tryz.prog enc w 70 OU1 :=
  (opens_struct (ps := [OR1, OI, OI]) (Tryz.underlying70) ⟨o_range, o_int (by kernel_rfl), o_int (by kernel_rfl), trivial⟩ (by kernel_rfl) (by kernel_rfl)).mono
    (fun a h => by
      obtain ⟨as', ha, rfl⟩ := h
      revert ha
      exact allP_3 (Q := fun l => OU1 (AV.agg (l.flatMap AV.cells))) (fun a b c ⟨f, t, h1, h2, e1⟩ ⟨m, h3, e2⟩ ⟨k, h4, e3⟩ => ⟨⟨f, t, m, k⟩, ⟨h1, h2, h3, h4⟩, by subst e1; subst e2; subst e3; rfl⟩) as')
    fun a ⟨u, h, e⟩ => ⟨[.agg [I u.f, I u.t], I u.c, I u.a], ⟨⟨u.f, u.t, h.1, h.2.1, rfl⟩, ⟨u.c, h.2.2.1, rfl⟩, ⟨u.a, h.2.2.2, rfl⟩, trivial⟩, e⟩
def OU (a : AV) : Prop := ∃ l : List Up, l.length ≤ 9223372036854775807 ∧ (∀ u ∈ l, u.r64) ∧ a = UPS l
theorem o_ups : Opens Tryz.prog enc w 25 OU :=
  (opens_slice (T := Up) (q := Up.r64) (f := UP) (e := 70) (sz := 4) (by kernel_rfl) (by kernel_rfl) (by decide) o_up).mono
    (fun a ⟨l, h, h1, e⟩ => ⟨l, h, h1, e⟩) fun a ⟨l, h, h1, e⟩ => ⟨l, h, h1, e⟩
end
end Go.Proofs.YthkihocapdfonaaGreatDoor
set_option maxRecDepth 100000
namespace Go.Proofs.YthkihocapdfonaaGreatDoor
open Go.Vai Go Go.Proofs
open Nat (reduceEqDiff reduceMul reduceAdd reduceDiv reduceLeDiff)
open Int (reduceToNat reduceNe reduceEq reduceLT reduceLE)
abbrev SLs (l : List ByteArray) : AV := .sl 1 (l.map Str)
section
variable (p : Nat → Bool) (l : List ByteArray)
@[go_sem] theorem namesL_Str : AV.namesL p (l.map Str) = false := namesL_map p l Str fun _ => rfl
@[go_sem] theorem flatL_Str : AV.flatL (l.map Str) = true := flatL_map l Str fun _ => rfl
@[go_sem] theorem allOK_Str : allOK 1 (l.map Str) = true := allOK_map 1 l Str fun _ => ⟨rfl, rfl⟩
@[go_sem] theorem append_Str (x : ByteArray) : l.map Str ++ [.v (.string x)] = (l ++ [x]).map Str := by simp
end
theorem fold32 : ∀ (l : List ByteArray) (h : ByteArray), h.size = 32 → (l.foldl chainF h).size = 32
  | [], _, h => h
  | x :: l, h, _ => by rw [List.foldl_cons]; exact fold32 l _ (shaF_size _)
theorem chainR_ev (a b : ByteArray) (hl : a.size + b.size ≤ 99999999) : Ev Tryz.prog 67 [Str a, Str b] (Str (chainF a b)) := by
  refine ev_of Tryz.func67 rfl (by kernel_rfl) mo (Nat.le_of_ble_eq_true rfl) ?_
  have hz : (#[2] : Array UInt8).size = 1 := rfl
  simp -implicitDefEqProofs (disch := omega) only [go_sem, Tryz.ntmps67, hz]
  refine callC_at (sumR_ev ((⟨#[2]⟩ : ByteArray) ++ a ++ b) ?_) ?_
  · simp only [ByteArray.size_append]; show 1 + _ + _ ≤ _; omega
  simp -implicitDefEqProofs (disch := omega) only [go_sem, Tryz.results67, chainF, ByteArray.append_assoc]
theorem encodeR_ev (u : Up) (hu : u.nb) : Ev Tryz.prog 66 [UP u] (Str (encU u)) := by
  refine ev_of Tryz.func66 rfl (by kernel_rfl) mo (Nat.le_of_ble_eq_true rfl) ?_
  simp -implicitDefEqProofs (disch := omega) only [go_sem, Tryz.ntmps66]
  obtain ⟨h1, h2, h3, h4⟩ := hu
  have hall : ∀ n ∈ [u.f, u.t, u.c, u.a], Nb n := by
    intro n hn
    simp only [List.mem_cons, List.not_mem_nil, or_false] at hn
    rcases hn with rfl | rfl | rfl | rfl <;> assumption
  have henc : numS [u.f, u.t, u.c, u.a] = encU u := rfl
  have hsz := numS_size
  obtain ⟨L, hL⟩ : ∃ L, [u.f, u.t, u.c, u.a] = L := ⟨_, rfl⟩
  have hL4 : L.length = 4 := by rw [← hL]; rfl
  rw [hL] at hall henc
  refine loopC_mk (fun k E σ => ∃ i : Nat, i + k = 4 ∧ E 3 = .own 140509472 1 0 4 ∧ E 4 = Str (numS (L.take i)) ∧ E 5 = I i ∧ σ 140509472 = some ⟨3, 1, L.map I⟩) 4 ⟨0, by omega, ?_⟩ ?_
  · simp -implicitDefEqProofs (disch := omega) only [go_sem, ← hL, List.map_cons, List.map_nil]
    exact ⟨rfl, rfl⟩
  rintro k E σ ⟨i, hk, e3, e4, e5, s3⟩
  simp -implicitDefEqProofs (disch := omega) only [go_sem, e3, e4, e5, s3]
  refine branch_mk (fun hc => ?_) (fun hc => ?_)
  · have hn := hall (gd L i) (gd_mem L i (by omega))
    have hnx : numS (L.take (i + 1)) = numS (L.take i) ++ viS (gd L i) := by rw [take_succ' L i (by omega), numS_append]
    have hs1 := numS_size (L.take i)
    have hs2 := viS_size (gd L i)
    rw [List.length_take] at hs1
    simp -implicitDefEqProofs (disch := omega) only [go_sem, e3, e4, e5, s3, hL4]
    refine callC_at (putIntR_ev (gd L i) hn.1 hn.2) ?_
    simp -implicitDefEqProofs (disch := omega) only [go_sem, e3, e4, e5, s3, hL4]
    refine againQ_mk (4 - (i + 1)) (by omega) ⟨i + 1, by omega, ?_⟩
    simp -implicitDefEqProofs (disch := omega) only [go_sem, e3, e4, e5, s3, hL4, hnx]
    rfl
  · obtain rfl : i = 4 := by omega
    have ht : L.take 4 = L := by rw [← hL4]; exact List.take_length
    rw [ht, henc] at e4
    simp -implicitDefEqProofs (disch := omega) only [go_sem, e4, Tryz.results66]
theorem encodingsR_ev (l : List Up) (hl : l.length ≤ 1000) (hu : ∀ u ∈ l, u.nb) : Ev Tryz.prog 44 [UPS l] (SLs (l.map encU)) := by
  refine ev_sl (r := .new 9 1 ((l.map encU).map Str)) ?_ _
  refine ev_of Tryz.func44 rfl (by kernel_rfl) mo (Nat.le_of_ble_eq_true rfl) ?_
  simp -implicitDefEqProofs (disch := omega) only [go_sem, Tryz.ntmps44]
  refine loopC_mk (fun k E σ => ∃ i : Nat, i + k = l.length ∧ E 0 = UPS l ∧ E 3 = .own 94371888 1 0 i ∧ E 4 = I i ∧ σ 94371888 = some ⟨9, 1, ((l.take i).map encU).map Str⟩) l.length ⟨0, by omega, ?_⟩ ?_
  · simp -implicitDefEqProofs (disch := omega) only [go_sem]
    simp
  rintro k E σ ⟨i, hk, e0, e3, e4, s3⟩
  simp -implicitDefEqProofs (disch := omega) only [go_sem, e0, e3, e4, s3]
  refine branch_mk (fun hc => ?_) (fun hc => ?_)
  · have hlt : ((l.take i).map encU).length = i := by rw [List.length_map, List.length_take]; omega
    have hs : (l.take i).map encU ++ [encU (gd l i)] = (l.take (i + 1)).map encU := by rw [take_succ' l i (by omega), List.map_append]; rfl
    have hen := encodeR_ev (gd l i) (hu _ (gd_mem l i (by omega)))
    obtain ⟨q', hq'⟩ : ∃ q', (l.take (i + 1)).map encU = q' := ⟨_, rfl⟩
    rw [hq'] at hs
    generalize (l.take i).map encU = q at *
    simp -implicitDefEqProofs (disch := omega) only [go_sem, e0, e3, e4, s3]
    refine callC_at hen ?_
    simp -implicitDefEqProofs (disch := omega) only [go_sem, e0, e3, e4, s3, hlt]
    refine againQ_mk (l.length - (i + 1)) (by omega) ⟨i + 1, by omega, ?_⟩
    simp -implicitDefEqProofs (disch := omega) only [go_sem, e0, e3, e4, s3, hlt, hs]
    rw [hq']
    exact ⟨rfl, rfl⟩
  · obtain rfl : i = l.length := by omega
    rw [List.take_length] at s3
    simp -implicitDefEqProofs (disch := omega) only [go_sem, e0, e3, e4, s3, Tryz.results44]
theorem headR_ev (l : List ByteArray) (hl : l.length ≤ 1000) (hs : ∀ s ∈ l, s.size ≤ 1000) : Ev Tryz.prog 45 [SLs l] (Str (l.foldl chainF zero32)) := by
  refine ev_of Tryz.func45 rfl (by kernel_rfl) mo (Nat.le_of_ble_eq_true rfl) ?_
  simp -implicitDefEqProofs (disch := omega) only [go_sem, Tryz.ntmps45]
  refine toStr_mk (List.replicate 32 0) (by simp -implicitDefEqProofs (disch := omega) only [go_sem]; rfl) (by intro b; simp -implicitDefEqProofs (disch := omega) only [go_sem]; intro e; cases e) (e := 5) rfl rfl rfl ?_
  rw [z32]
  simp -implicitDefEqProofs (disch := omega) only [go_sem]
  have h32 : ∀ i, ((l.take i).foldl chainF zero32).size = 32 := fun i => fold32 _ _ (by unfold zero32; decide)
  refine loopC_mk (fun k E σ => ∃ i : Nat, i + k = l.length ∧ E 0 = SLs l ∧ E 3 = Str ((l.take i).foldl chainF zero32) ∧ E 4 = I i) l.length ⟨0, by omega, ?_⟩ ?_
  · simp -implicitDefEqProofs (disch := omega) only [go_sem]
    exact ⟨rfl, rfl⟩
  rintro k E σ ⟨i, hk, e0, e3, e4⟩
  have hi32 := h32 i
  simp -implicitDefEqProofs (disch := omega) only [go_sem, e0, e3, e4]
  refine branch_mk (fun hc => ?_) (fun hc => ?_)
  · have hx : (l.take (i + 1)).foldl chainF zero32 = chainF ((l.take i).foldl chainF zero32) (gd l i) := by rw [take_succ' l i (by omega), List.foldl_append]; rfl
    generalize (l.take i).foldl chainF zero32 = H at *
    have hsz := hs _ (gd_mem l i (by omega))
    simp -implicitDefEqProofs (disch := omega) only [go_sem, e0, e3, e4]
    refine callC_at (chainR_ev H (gd l i) (by omega)) ?_
    simp -implicitDefEqProofs (disch := omega) only [go_sem, e0, e3, e4]
    refine againQ_mk (l.length - (i + 1)) (by omega) ⟨i + 1, by omega, ?_⟩
    simp -implicitDefEqProofs (disch := omega) only [go_sem, e0, e3, e4, hx]
    rfl
  · obtain rfl : i = l.length := by omega
    rw [List.take_length] at e3
    simp -implicitDefEqProofs (disch := omega) only [go_sem, e3, Tryz.results45]
theorem headF_eq (l : List Up) : ∀ v, v ≤ l.length → headN l v = ((l.take v).map encU).foldl chainF zero32
  | 0, _ => rfl
  | v + 1, h => by rw [headN, headF_eq l v (by omega), take_succ' l v (by omega), List.map_append, List.foldl_append]; rfl
end Go.Proofs.YthkihocapdfonaaGreatDoor
set_option maxRecDepth 100000
namespace Go.Proofs.YthkihocapdfonaaGreatDoor
open Go.Vai Go Go.Proofs
open Nat (reduceEqDiff reduceMul reduceAdd reduceDiv reduceLeDiff)
open Int (reduceToNat reduceNe reduceEq reduceLT reduceLE)
def manyU (i : Nat) : Up := ⟨1000 + 2 * i, 1001 + 2 * i, (i : Int).tmod 8, 10000000⟩
def bentF (l : List Up) (how n a : Int) : List Up :=
  if l = [] then [⟨0, 0, n, 0⟩] else
  let k := (pickF a l.length).toNat
  let h := pickF how 6
  if h = 0 then l.set k { gd l k with f := n } else
  if h = 1 then l.set k { gd l k with t := n } else
  if h = 2 then l.set k { gd l k with c := n } else
  if h = 3 then l.set k { gd l k with a := n } else
  if h = 4 then (l.set 0 (gd l k)).set k (gd l 0) else
  l ++ (List.range 27).map manyU
theorem bentF_length (l : List Up) (how n a : Int) (h : l.length ≤ 14) : (bentF l how n a).length ≤ 41 := by
  unfold bentF
  dsimp only
  repeat' split
  all_goals simp <;> omega
theorem set_UP (l : List Up) (k : Nat) (a b c d : Int) : (l.map UP).set k (.agg [I a, I b, I c, I d]) = (l.set k ⟨a, b, c, d⟩).map UP := by rw [List.map_set]
theorem set_UP2 (l : List Up) (k : Nat) (u : Up) : (l.map UP).set k (.agg [I u.f, I u.t, I u.c, I u.a]) = (l.set k u).map UP := by rw [List.map_set]
theorem bent_nil (how n a : Int) : Ev Tryz.prog 7 [UPS [], I how, I n, I a] (.new 70 4 ([⟨0, 0, n, 0⟩].map UP)) := by
  refine ev_ofB [19] Tryz.func7 rfl (by kernel_rfl) mo (Nat.le_of_ble_eq_true rfl) ?_
  simp -implicitDefEqProofs (disch := omega) only [go_sem, Tryz.ntmps7]
  refine branch_l rfl ?_
  simp -implicitDefEqProofs (disch := omega) only [go_sem, Tryz.results7]
  try rfl
set_option maxHeartbeats 1000000 in
theorem bent_cons (l : List Up) (h0 : l ≠ []) (how n a : Int) (hl : l.length ≤ 14) (hh : R64 how) (hn : R64 n) (ha : R64 a) : Ev Tryz.prog 7 [UPS l, I how, I n, I a] (.new 70 4 ((bentF l how n a).map UP)) := by
  have hpos : 0 < l.length := List.length_pos_iff.2 h0
  have hb : bentF l how n a = (if l = [] then [⟨0, 0, n, 0⟩] else _) := rfl
  rw [if_neg h0] at hb
  have cp := pick23_ev a l.length ha (by omega)
  have hp := pickF_in (c := a) (n := l.length) (by omega)
  generalize pickF a l.length = K at *
  obtain ⟨k, rfl⟩ : ∃ k : Nat, K = k := ⟨K.toNat, by omega⟩
  rw [Int.toNat_natCast] at hb
  have cp2 := pick23_ev how 6 hh (by omega)
  have hp2 := pickF_in (c := how) (n := 6) (by omega)
  generalize pickF how 6 = h at *
  generalize bentF l how n a = r at *
  have hln : ((l.length : Int) = 0) = False := eq_false (by omega)
  refine ev_ofB [19] Tryz.func7 rfl (by kernel_rfl) mo (Nat.le_of_ble_eq_true rfl) ?_
  simp -implicitDefEqProofs (disch := omega) only [go_sem, Tryz.ntmps7, hln]
  refine callC_at cp ?_
  simp -implicitDefEqProofs (disch := omega) only [go_sem]
  refine callC_at cp2 ?_
  simp -implicitDefEqProofs (disch := omega) only [go_sem]
  refine branch_mk (fun k0 => ?_) (fun k0 => ?_)
  · rw [if_pos k0] at hb
    subst hb
    simp -implicitDefEqProofs (disch := omega) only [go_sem, and_self]
    simp -implicitDefEqProofs (disch := omega) only [go_sem, and_self, set_UP, Tryz.results7]
    rw [List.take_of_length_le (by simp)]
  rw [if_neg k0] at hb
  simp -implicitDefEqProofs (disch := omega) only [go_sem]
  refine branch_mk (fun k1 => ?_) (fun k1 => ?_)
  · rw [if_pos k1] at hb
    subst hb
    simp -implicitDefEqProofs (disch := omega) only [go_sem, and_self]
    simp -implicitDefEqProofs (disch := omega) only [go_sem, and_self, set_UP, Tryz.results7]
    rw [List.take_of_length_le (by simp)]
  rw [if_neg k1] at hb
  simp -implicitDefEqProofs (disch := omega) only [go_sem]
  refine branch_mk (fun k2 => ?_) (fun k2 => ?_)
  · rw [if_pos k2] at hb
    subst hb
    simp -implicitDefEqProofs (disch := omega) only [go_sem, and_self]
    simp -implicitDefEqProofs (disch := omega) only [go_sem, and_self, set_UP, Tryz.results7]
    rw [List.take_of_length_le (by simp)]
  rw [if_neg k2] at hb
  simp -implicitDefEqProofs (disch := omega) only [go_sem]
  refine branch_mk (fun k3 => ?_) (fun k3 => ?_)
  · rw [if_pos k3] at hb
    subst hb
    simp -implicitDefEqProofs (disch := omega) only [go_sem, and_self]
    simp -implicitDefEqProofs (disch := omega) only [go_sem, and_self, set_UP, Tryz.results7]
    rw [List.take_of_length_le (by simp)]
  rw [if_neg k3] at hb
  simp -implicitDefEqProofs (disch := omega) only [go_sem]
  refine branch_mk (fun k4 => ?_) (fun k4 => ?_)
  · rw [if_pos k4] at hb
    have hkl : k < l.length := by omega
    simp -implicitDefEqProofs (disch := omega) only [go_sem]
    refine region_K (fun D E σ => E 9 = .own 16777408 4 0 l.length ∧ E 10 = I k ∧ (D 13 = true → D 11 = true) ∧ (D 11 = true → D 6 = true) ∧ (D 11 = true → D 9 = true) ∧ (D 11 = false → σ 16777408 = some ⟨70, 4, l.map UP⟩) ∧ (D 11 = true → D 13 = false → σ 16777408 = some ⟨70, 4, (l.set 0 (gd l k)).map UP⟩) ∧ (D 13 = true → σ 16777408 = some ⟨70, 4, ((l.set 0 (gd l k)).set k (gd l 0)).map UP⟩) ∧ (D 0 = true → E 81 = .own 16777408 4 0 l.length) ∧ (D 1 = true → E 82 = .own 16777408 4 0 l.length) ∧ (D 2 = true → E 83 = I k) ∧ (D 3 = true → E 84 = .own 16777408 4 0 l.length) ∧ (D 4 = true → E 85 = I k) ∧ (D 5 = true → E 86 = .ptr 16777408 4 k 0) ∧ (D 6 = true → E 87 = UP (gd l k)) ∧ (D 7 = true → E 88 = .own 16777408 4 0 l.length) ∧ (D 8 = true → E 89 = .ptr 16777408 4 0 0) ∧ (D 9 = true → E 90 = UP (gd l 0)) ∧ (D 10 = true → E 91 = .ptr 16777408 4 0 0) ∧ (D 12 = true → E 92 = .ptr 16777408 4 k 0)) ?_ ?_ ?_
    · simp -implicitDefEqProofs (disch := omega) only [go_sem, hpos, hkl, set_UP2]
      try simp
    · simp only [stepsK, depK, Region.binds, eq_self, forall_const, and_true]
      repeat' apply And.intro
      all_goals
        rintro D E σ ⟨e9, e10, c13_11, c11_6, c11_9, m0_0, m0_1, m0_2, j0, j1, j2, j3, j4, j5, j6, j7, j8, j9, j10, j12⟩ hd
        have k := And.intro trivial <| And.intro (cK c13_11) <| And.intro (cK c11_6) <| And.intro (cK c11_9) trivial
        simp -implicitDefEqProofs (disch := first | assumption | (simp only [hd, k]; done) | omega) only [go_sem, e9, e10, m0_0, m0_1, m0_2, j0, j1, j2, j3, j4, j5, j6, j7, j8, j9, j10, j12, hpos, hkl, set_UP2]
        repeat' apply And.intro
        all_goals first | assumption | (intro _; assumption) | trivial | (simp -implicitDefEqProofs (contextual := true) (disch := first | assumption | omega) only [go_sem, m0_0, m0_1, m0_2, j0, j1, j2, j3, j4, j5, j6, j7, j8, j9, j10, j12, hd, c13_11, c11_6, c11_9, k, implies_true, forall_const, false_implies, true_implies]; done) | (intro h; intros; exfalso; simp (maxDischargeDepth := 9) [hd, k] at h; done) | (intros; contradiction) | trace_state
    · rintro D E σ hD ⟨e9, e10, c13_11, c11_6, c11_9, m0_0, m0_1, m0_2, j0, j1, j2, j3, j4, j5, j6, j7, j8, j9, j10, j12⟩
      have g0 := m0_2 (hD 13 (by decide))
      have q0 := j0 (hD 0 (by decide))
      have q1 := j1 (hD 1 (by decide))
      have q2 := j2 (hD 2 (by decide))
      have q3 := j3 (hD 3 (by decide))
      have q4 := j4 (hD 4 (by decide))
      have q5 := j5 (hD 5 (by decide))
      have q6 := j6 (hD 6 (by decide))
      have q7 := j7 (hD 7 (by decide))
      have q8 := j8 (hD 8 (by decide))
      have q9 := j9 (hD 9 (by decide))
      have q10 := j10 (hD 10 (by decide))
      have q12 := j12 (hD 12 (by decide))
      clear c13_11 c11_6 c11_9 m0_0 m0_1 m0_2 j0 j1 j2 j3 j4 j5 j6 j7 j8 j9 j10 j12 hD
      subst hb
      simp -implicitDefEqProofs (disch := omega) only [go_sem, e9, e10, g0, Tryz.results7]
      rw [List.take_of_length_le (by simp)]
  rw [if_neg k4] at hb
  simp -implicitDefEqProofs (disch := omega) only [go_sem]
  refine loopC_mk (fun m E σ => ∃ i : Nat, i + m = 27 ∧ E 9 = .own 16777408 4 0 (l.length + i) ∧ E 11 = I i ∧ σ 16777408 = some ⟨70, 4, (l ++ (List.range i).map manyU).map UP⟩) 27 ⟨0, by omega, ?_⟩ ?_
  · simp -implicitDefEqProofs (disch := omega) only [go_sem]
    simp
  rintro m E σ ⟨i, hm, e9, e11, s9⟩
  have hln : (l ++ (List.range i).map manyU).length = l.length + i := by simp
  have hs : (l ++ (List.range i).map manyU) ++ [manyU i] = l ++ (List.range (i + 1)).map manyU := by rw [List.range_succ, List.map_append, List.append_assoc]; rfl
  generalize l ++ (List.range i).map manyU = q at hln hs s9
  simp -implicitDefEqProofs (disch := omega) only [go_sem, e9, e11, s9, hln]
  refine branch_mk (fun hc => ?_) (fun hc => ?_)
  · simp -implicitDefEqProofs (disch := omega) only [go_sem, e9, e11, s9, hln]
    refine branch_l (by omega) ?_
    simp -implicitDefEqProofs (disch := omega) only [go_sem, e9, e11, s9, hln]
    refine againQ_mk (27 - (i + 1)) (by omega) ⟨i + 1, by omega, ?_⟩
    simp -implicitDefEqProofs (disch := omega) only [go_sem, e9, e11, s9, hln]
    refine ⟨rfl, rfl, ?_⟩
    rw [← List.range_succ, ← hs]; rfl
  · obtain rfl : i = 27 := by omega
    have h40 : l.length + 27 = q.length := hln.symm
    have hq : q = r := by
      rw [hb]
      have e : ∀ x : Up, q ++ [x] = (l ++ (List.range 27).map manyU) ++ [x] → q = l ++ (List.range 27).map manyU := fun x h => List.append_cancel_right h
      rw [List.range_succ, List.map_append, ← List.append_assoc] at hs
      exact e _ hs
    simp -implicitDefEqProofs (disch := omega) only [go_sem, e9, e11, s9, hln, h40, hq, List.take_length, Tryz.results7]
theorem bent_ev (l : List Up) (how n a : Int) (hl : l.length ≤ 14) (hh : R64 how) (hn : R64 n) (ha : R64 a) : Ev Tryz.prog 7 [UPS l, I how, I n, I a] (UPS (bentF l how n a)) := by
  refine ev_sl (r := .new 70 4 ((bentF l how n a).map UP)) ?_ _
  by_cases h0 : l = []
  · subst h0
    have e : bentF [] how n a = [⟨0, 0, n, 0⟩] := rfl
    rw [e]
    exact bent_nil how n a
  · exact bent_cons l h0 how n a hl hh hn ha
end Go.Proofs.YthkihocapdfonaaGreatDoor
set_option maxRecDepth 100000
namespace Go.Proofs.YthkihocapdfonaaGreatDoor
open Go.Vai Go Go.Proofs
open Nat (reduceEqDiff reduceMul reduceAdd reduceDiv reduceLeDiff)
open Int (reduceToNat reduceNe reduceEq reduceLT reduceLE)
end Go.Proofs.YthkihocapdfonaaGreatDoor
set_option maxRecDepth 100000
namespace Go.Proofs.YthkihocapdfonaaGreatDoor
open Go.Vai Go Go.Proofs
open Nat (reduceEqDiff reduceMul reduceAdd reduceDiv reduceLeDiff)
open Int (reduceToNat reduceNe reduceEq reduceLT reduceLE)
theorem bytes_eq {a b : ByteArray} (h : a.data.toList = b.data.toList) : a = b := by
  cases a; cases b
  simp only [ByteArray.mk.injEq]
  exact Array.toList_inj.1 h
theorem str_beq (a b : ByteArray) : (a.toList == b.toList) = decide (a = b) := by
  rw [ByteArray.toList_eq, ByteArray.toList_eq, Bool.eq_iff_iff, decide_eq_true_iff, beq_iff_eq]
  exact ⟨bytes_eq, fun h => by rw [h]⟩
end Go.Proofs.YthkihocapdfonaaGreatDoor
set_option maxRecDepth 100000
namespace Go.Proofs.YthkihocapdfonaaGreatDoor
open Go.Vai Go Go.Proofs
open Nat (reduceEqDiff reduceMul reduceAdd reduceDiv reduceLeDiff)
open Int (reduceToNat reduceNe reduceEq reduceLT reduceLE)
theorem dnL_map {T : Type} (l : List T) (f : T → AV) (h : ∀ x, (f x).dn = false) : AV.dnL (l.map f) = false := by
  cases e : AV.dnL (l.map f) with
  | false => rfl
  | true => obtain ⟨c, hc, h2⟩ := (dnL_iff _).1 e; obtain ⟨x, _, rfl⟩ := List.mem_map.1 hc; rw [h x] at h2; cases h2
theorem dn_SL (l : List Int) : (SL l).dn = false := dnL_map l I fun _ => rfl
theorem dn_BL (l : List Bk) : (BL l).dn = false := dnL_map l BP fun _ => rfl
theorem inR_ev (n a b : Int) : Ev Tryz.prog 47 [I n, I a, I b] (B (decide (a ≤ n ∧ n ≤ b))) := by
  refine ev_of Tryz.func47 rfl (by kernel_rfl) mo (Nat.le_of_ble_eq_true rfl) ?_
  simp -implicitDefEqProofs (disch := omega) only [go_sem, Tryz.ntmps47]
  refine branch_mk (fun h => ?_) (fun h => ?_)
  · simp -implicitDefEqProofs (disch := omega) only [go_sem, h, Tryz.results47]
    try simp
  · simp -implicitDefEqProofs (disch := omega) only [go_sem, h, Tryz.results47]
    try simp [h]
theorem carR_ev (c : Int) : Ev Tryz.prog 95 [I c] (B (decide (cOK c))) := by
  refine ev_of Tryz.func95 rfl (by kernel_rfl) mo (Nat.le_of_ble_eq_true rfl) ?_
  simp -implicitDefEqProofs (disch := omega) only [go_sem, Tryz.ntmps95]
  refine branch_mk (fun h => ?_) (fun h => ?_)
  · simp -implicitDefEqProofs (disch := omega) only [go_sem, h, Tryz.results95]
    try simp [cOK, h]
  · simp -implicitDefEqProofs (disch := omega) only [go_sem, h, Tryz.results95]
    try simp [cOK, h]
theorem rangeR_ev (f t : Int) : Ev Tryz.prog 46 [.agg [I f, I t]] (B (decide (rOK f t))) := by
  refine ev_of Tryz.func46 rfl (by kernel_rfl) mo (Nat.le_of_ble_eq_true rfl) ?_
  simp -implicitDefEqProofs (disch := omega) only [go_sem, Tryz.ntmps46]
  refine branch_mk (fun h => ?_) (fun h => ?_)
  · simp -implicitDefEqProofs (disch := omega) only [go_sem, h]
    refine branch_mk (fun h2 => ?_) (fun h2 => ?_)
    · simp -implicitDefEqProofs (disch := omega) only [go_sem, h2, Tryz.results46]
      try simp [rOK, h, h2]
    · simp -implicitDefEqProofs (disch := omega) only [go_sem, h2, Tryz.results46]
      try simp [rOK, h, h2]
  · simp -implicitDefEqProofs (disch := omega) only [go_sem, h, Tryz.results46]
    try simp [rOK, h]
def zAt (l : List Bk) : Nat → Bk
  | 0 => ⟨0, 0, -1⟩
  | i + 1 => gd l i
theorem drop_gd {T : Type} [Inhabited T] (l : List T) (i : Nat) (h : i < l.length) : l.drop i = gd l i :: l.drop (i + 1) := by
  rw [gd_getB l i h, List.drop_eq_getElem_cons h]
theorem validR_ev (l : List Bk) (hl : l.length ≤ 1000000) : Ev Tryz.prog 72 [BL l] (B (validB l)) := by
  refine ev_of Tryz.func72 rfl (by kernel_rfl) mo (Nat.le_of_ble_eq_true rfl) ?_
  simp -implicitDefEqProofs (disch := omega) only [go_sem, Tryz.ntmps72]
  refine branch_mk (fun h => ?_) (fun h => ?_)
  · have e : validB l = false := by
      cases hv : validB l with
      | false => rfl
      | true => have := (validB_iff.1 hv).1; omega
    simp -implicitDefEqProofs (disch := omega) only [go_sem, e, Tryz.results72]
  simp -implicitDefEqProofs (disch := omega) only [go_sem]
  have h40 : l.length ≤ 40 := by omega
  refine loopC_mk (fun k E σ => ∃ i : Nat, i + k = l.length ∧ (canon 0 (-1) l ↔ canon (zAt l i).t (zAt l i).c (l.drop i)) ∧ E 0 = BL l ∧ E 3 = I i) l.length ⟨0, by omega, Iff.rfl, ?_⟩ ?_
  · simp -implicitDefEqProofs (disch := omega) only [go_sem]
    rfl
  rintro k E σ ⟨i, hk, hcan, e0, e3⟩
  simp -implicitDefEqProofs (disch := omega) only [go_sem, e0, e3]
  refine branch_mk (fun hc => ?_) (fun hc => ?_)
  · have hi : i < l.length := by omega
    rw [drop_gd l i hi] at hcan
    have no : ¬ canon 0 (-1) l → validB l = false := fun hn => by
      cases hv : validB l with
      | false => rfl
      | true => exact absurd (validB_iff.1 hv).2 hn
    have hz : 0 < i → zAt l i = gd l (i - 1) := fun h0 => by
      obtain ⟨j, rfl⟩ : ∃ j, i = j + 1 := ⟨i - 1, by omega⟩
      rfl
    have hz0 : i = 0 → zAt l i = ⟨0, 0, -1⟩ := fun h0 => by subst h0; rfl
    simp -implicitDefEqProofs (disch := omega) only [go_sem, e0, e3]
    refine callC_at (rangeR_ev (gd l i).f (gd l i).t) ?_
    by_cases h1 : rOK (gd l i).f (gd l i).t
    case neg =>
      have hv := no fun hh => h1 (hcan.1 hh).1
      rw [decide_eq_false h1]
      simp -implicitDefEqProofs (disch := omega) only [go_sem, e0, e3, hv, Tryz.results72]
    rw [decide_eq_true h1]
    simp -implicitDefEqProofs (disch := omega) only [go_sem, e0, e3]
    refine callC_at (carR_ev (gd l i).c) ?_
    by_cases h2 : cOK (gd l i).c
    case neg =>
      have hv := no fun hh => h2 (hcan.1 hh).2.1
      rw [decide_eq_false h2]
      simp -implicitDefEqProofs (disch := omega) only [go_sem, e0, e3, hv, Tryz.results72]
    rw [decide_eq_true h2]
    simp -implicitDefEqProofs (disch := omega) only [go_sem, e0, e3]
    have e1 : ((i : Int) - 1).toNat = i - 1 := by omega
    have go : ((zAt l i).t ≤ (gd l i).f ∧ ¬ ((gd l i).f = (zAt l i).t ∧ (gd l i).c = (zAt l i).c)) → (canon 0 (-1) l ↔ canon (zAt l (i + 1)).t (zAt l (i + 1)).c (l.drop (i + 1))) := fun h => hcan.trans ⟨fun hh => hh.2.2.2.2, fun hh => ⟨h1, h2, h.1, h.2, hh⟩⟩
    refine branch_mk (fun h0 => ?_) (fun h0 => ?_)
    · have z := hz (by omega)
      rw [z] at hcan go
      simp -implicitDefEqProofs (disch := omega) only [go_sem, e0, e3, e1]
      refine branch_mk (fun h3 => ?_) (fun h3 => ?_)
      · have hv := no fun hh => by have := (hcan.1 hh).2.2.1; omega
        simp -implicitDefEqProofs (disch := omega) only [go_sem, e0, e3, hv, Tryz.results72]
      simp -implicitDefEqProofs (disch := omega) only [go_sem, e0, e3, e1]
      refine branch_mk (fun h4 => ?_) (fun h4 => ?_)
      · simp -implicitDefEqProofs (disch := omega) only [go_sem, e0, e3, e1]
        refine branch_mk (fun h5 => ?_) (fun h5 => ?_)
        · have hv := no fun hh => (hcan.1 hh).2.2.2.1 ⟨h4.symm, h5.symm⟩
          simp -implicitDefEqProofs (disch := omega) only [go_sem, e0, e3, hv, Tryz.results72]
        · simp -implicitDefEqProofs (disch := omega) only [go_sem, e0, e3, e1]
          refine againQ_mk (l.length - (i + 1)) (by omega) ⟨i + 1, by omega, go ⟨by omega, fun h => h5 h.2.symm⟩, ?_⟩
          simp -implicitDefEqProofs (disch := omega) only [go_sem, e0, e3]
          rfl
      · simp -implicitDefEqProofs (disch := omega) only [go_sem, e0, e3, e1]
        refine againQ_mk (l.length - (i + 1)) (by omega) ⟨i + 1, by omega, go ⟨by omega, fun h => h4 h.1.symm⟩, ?_⟩
        simp -implicitDefEqProofs (disch := omega) only [go_sem, e0, e3]
        rfl
    · have z := hz0 (by omega)
      rw [z] at hcan go
      simp -implicitDefEqProofs (disch := omega) only [go_sem, e0, e3]
      refine againQ_mk (l.length - (i + 1)) (by omega) ⟨i + 1, by omega, go ⟨h1.1, fun h => by have := h.2; have := h2.1; simp only at *; omega⟩, ?_⟩
      simp -implicitDefEqProofs (disch := omega) only [go_sem, e0, e3]
      rfl
  · obtain rfl : i = l.length := by omega
    have hv : validB l = true := validB_iff.2 ⟨h40, hcan.2 (by rw [List.drop_length]; trivial)⟩
    simp -implicitDefEqProofs (disch := omega) only [go_sem, e0, e3, hv, Tryz.results72]
end Go.Proofs.YthkihocapdfonaaGreatDoor
set_option maxRecDepth 100000
namespace Go.Proofs.YthkihocapdfonaaGreatDoor
open Go.Vai Go Go.Proofs
open Nat (reduceEqDiff reduceMul reduceAdd reduceDiv reduceLeDiff)
open Int (reduceToNat reduceNe reduceEq reduceLT reduceLE)
theorem putE_skip (n : Int) : ∀ (l : List Int) (i : Nat), (∀ j, j < i → gd l j < n) → i ≤ l.length → putE l n = l.take i ++ putE (l.drop i) n
  | l, 0, _, _ => by simp
  | [], i + 1, _, h => by simp at h
  | x :: l, i + 1, hlt, h => by
    have h0 : x < n := hlt 0 (by omega)
    rw [putE, if_pos h0, putE_skip n l i (fun j hj => hlt (j + 1) (by omega)) (by simpa using h)]
    simp
theorem holderR_ev (l : List Bk) (n : Int) (hl : l.length ≤ 1000000) : Ev Tryz.prog 74 [BL l, I n] (I (holdB l n)) := by
  refine ev_of Tryz.func74 rfl (by kernel_rfl) mo (Nat.le_of_ble_eq_true rfl) ?_
  simp -implicitDefEqProofs (disch := omega) only [go_sem, Tryz.ntmps74]
  refine loopC_mk (fun k E σ => ∃ i : Nat, i + k = l.length ∧ holdB l n = holdB (l.drop i) n ∧ E 0 = BL l ∧ E 1 = I n ∧ E 5 = I i) l.length ⟨0, by omega, rfl, ?_⟩ ?_
  · simp -implicitDefEqProofs (disch := omega) only [go_sem]
    rfl
  rintro k E σ ⟨i, hk, hh, e0, e1, e5⟩
  simp -implicitDefEqProofs (disch := omega) only [go_sem, e0, e1, e5]
  refine branch_mk (fun hc => ?_) (fun hc => ?_)
  · have hi : i < l.length := by omega
    rw [drop_gd l i hi, holdB] at hh
    have hu : (gd l i).has n ↔ (gd l i).f ≤ n ∧ n < (gd l i).t := Iff.rfl
    simp -implicitDefEqProofs (disch := omega) only [go_sem, e0, e1, e5]
    refine branch_mk (fun h1 => ?_) (fun h1 => ?_)
    · simp -implicitDefEqProofs (disch := omega) only [go_sem, e0, e1, e5]
      refine branch_mk (fun h2 => ?_) (fun h2 => ?_)
      · rw [if_pos (hu.2 ⟨h1, h2⟩)] at hh
        simp -implicitDefEqProofs (disch := omega) only [go_sem, e0, e1, e5, hh, Tryz.results74]
      · rw [if_neg fun h => h2 (hu.1 h).2] at hh
        simp -implicitDefEqProofs (disch := omega) only [go_sem, e0, e1, e5]
        refine againQ_mk (l.length - (i + 1)) (by omega) ⟨i + 1, by omega, hh, ?_⟩
        simp -implicitDefEqProofs (disch := omega) only [go_sem, e0, e1, e5]
        rfl
    · rw [if_neg fun h => h1 (hu.1 h).1] at hh
      simp -implicitDefEqProofs (disch := omega) only [go_sem, e0, e1, e5]
      refine againQ_mk (l.length - (i + 1)) (by omega) ⟨i + 1, by omega, hh, ?_⟩
      simp -implicitDefEqProofs (disch := omega) only [go_sem, e0, e1, e5]
      rfl
  · obtain rfl : i = l.length := by omega
    rw [List.drop_length] at hh
    simp -implicitDefEqProofs (disch := omega) only [go_sem, e0, e1, e5, hh, holdB, Tryz.results74]
def stopE (l : List Int) (n : Int) : Prop := ∃ i, i < l.length ∧ (∀ j, j < i → gd l j < n) ∧ gd l i = n
set_option maxHeartbeats 1000000 in
theorem putR0 (l : List Int) (n : Int) (hl : l.length ≤ 1000000) (r : AV) (h1 : stopE l n → r = SL (putE l n)) (h2 : ¬ stopE l n → r = .new 3 1 ((putE l n).map I)) : Ev Tryz.prog 100 [SL l, I n] r := by
  refine ev_ofB [6] Tryz.func100 rfl (by kernel_rfl) mo (Nat.le_of_ble_eq_true rfl) ?_
  simp -implicitDefEqProofs (disch := omega) only [go_sem, Tryz.ntmps100]
  refine loopC_mk (fun k E σ => ∃ i : Nat, i + k = l.length ∧ (∀ j, j < i → gd l j < n) ∧ E 0 = SL l ∧ E 1 = I n ∧ E 5 = I i) l.length ⟨0, by omega, fun _ h => absurd h (Nat.not_lt_zero _), ?_⟩ ?_
  · simp -implicitDefEqProofs (disch := omega) only [go_sem]
    rfl
  rintro k E σ ⟨i, hk, hlt, e0, e1, e5⟩
  have hsk := putE_skip n l i hlt (by omega)
  simp -implicitDefEqProofs (disch := omega) only [go_sem, e0, e1, e5]
  refine branch_mk (fun hc => ?_) (fun hc => ?_)
  have hi : i < l.length := by omega
  simp -implicitDefEqProofs (disch := omega) only [go_sem, e0, e1, e5]
  refine branch_mk (fun h3 => ?_) (fun h3 => ?_)
  · simp -implicitDefEqProofs (disch := omega) only [go_sem, e0, e1, e5]
    refine againQ_mk (l.length - (i + 1)) (by omega) ⟨i + 1, by omega, ?_, ?_⟩
    · intro j hj
      by_cases e : j = i
      · subst e; exact h3
      · exact hlt j (by omega)
    · simp -implicitDefEqProofs (disch := omega) only [go_sem, e0, e1, e5]
      rfl
  simp -implicitDefEqProofs (disch := omega) only [go_sem, e0, e1, e5]
  refine branch_l (by omega) ?_
  simp -implicitDefEqProofs (disch := omega) only [go_sem, e0, e1, e5]
  refine branch_mk (fun h4 => ?_) (fun h4 => ?_)
  · have hst : stopE l n := ⟨i, hi, hlt, h4⟩
    have hpe : putE l n = l := by
      rw [hsk, drop_gd l i hi, putE, if_neg h3, if_pos h4, ← drop_gd l i hi, List.take_append_drop]
    rw [h1 hst, hpe]
    simp -implicitDefEqProofs (disch := omega) only [go_sem, e0, e1, e5, Tryz.results100]
  have hns : ¬ stopE l n := by
    rintro ⟨j, hj, hjl, hje⟩
    have : ¬ j < i := fun h => by have := hlt j h; omega
    have : ¬ i < j := fun h => by have := hjl i h; omega
    obtain rfl : j = i := by omega
    exact h4 hje
  have hput : putE l n = l.take i ++ n :: l.drop i := by
    rw [hsk, drop_gd l i hi, putE, if_neg h3, if_neg h4]
  rotate_left
  simp -implicitDefEqProofs (disch := omega) only [go_sem, e0, e1, e5]
  refine branch_r (by omega) ?_
  have hns : ¬ stopE l n := by
    rintro ⟨j, hj, hjl, hje⟩
    have : ¬ j < i := fun h => by have := hlt j h; omega
    omega
  have hput : putE l n = l.take i ++ n :: l.drop i := by
    rw [hsk, List.drop_of_length_le (by omega)]; rfl
  all_goals
    rw [h2 hns, hput]
    have hi : i ≤ l.length := by omega
    have htl : (l.take i).length = i := by rw [List.length_take]; omega
    have hdl : (l.drop i).length = l.length - i := List.length_drop
    clear h1 h2 hsk hput hns hc
    simp -implicitDefEqProofs (disch := omega) only [go_sem, e0, e1, e5]
    refine region_K1 (fun D E σ => E 0 = SL l ∧ E 1 = I n ∧ E 5 = I i ∧ (D 10 = true → D 9 = true) ∧ (D 10 = true → D 3 = true) ∧ (D 11 = true → D 10 = true) ∧ (D 9 = true → D 5 = true) ∧ (D 5 = true → D 9 = false → σ 211812960 = some ⟨3, 1, [I n]⟩) ∧ (D 5 = true → D 9 = false → E 38 = .own 211812960 1 0 1) ∧ (D 9 = true → σ 211812960 = some ⟨3, 1, I n :: (l.drop i).map I⟩) ∧ (D 9 = true → E 42 = .own 211812960 1 0 (1 + (l.length - i))) ∧ (D 10 = true → σ 211813040 = some ⟨3, 1, (l.take i).map I ++ I n :: (l.drop i).map I⟩) ∧ (D 0 = true → E 33 = SL l) ∧ (D 1 = true → E 34 = I i) ∧ (D 2 = true → E 35 = I i) ∧ (D 3 = true → E 36 = .cut 1 ((l.take i).map I)) ∧ (D 4 = true → E 37 = I n) ∧ (D 6 = true → E 39 = SL l) ∧ (D 7 = true → E 40 = I i) ∧ (D 8 = true → E 41 = SL (l.drop i)) ∧ (D 10 = true → E 43 = .own 211813040 1 0 (l.length + 1)) ∧ (D 11 = true → E 4 = .own 211813040 1 0 (l.length + 1))) 10 ?_ ?_ ?_ ?_
    · simp -implicitDefEqProofs (disch := omega) only [go_sem, hi, hdl, htl]
      exact ⟨e0, e1, e5, by simp⟩
    · simp only [stepsK1, ne_eq, Nat.reduceAdd, Nat.reduceEqDiff, not_true_eq_false, not_false_eq_true, false_implies, true_implies, depK, Region.binds, eq_self, forall_const, and_true]
      repeat' apply And.intro
      all_goals try exact trivial
      all_goals
        rintro D E σ ⟨e0, e1, e5, c10_9, c10_3, c11_10, c9_5, m0_0, n0_0, m0_1, n0_1, m1_0, j0, j1, j2, j3, j4, j6, j7, j8, j10, j11⟩ hd
        have k := And.intro trivial <| And.intro (cK c10_9) <| And.intro (cK c10_3) <| And.intro (cK c11_10) <| And.intro (cK c9_5) trivial
        simp -implicitDefEqProofs (disch := first | assumption | (simp only [hd, k]; done) | omega) only [go_sem, e0, e1, e5, m0_0, n0_0, m0_1, n0_1, m1_0, j0, j1, j2, j3, j4, j6, j7, j8, j10, j11, hi, hdl, htl]
        try (refine slice3c_mk (sz := 1) (es := l.map I) (e := 3) 0 i (km := .i64) (by simp -implicitDefEqProofs (disch := first | assumption | (simp only [hd, k]; done) | omega) only [go_sem, e0, e1, e5, m0_0, n0_0, m0_1, n0_1, m1_0, j0, j1, j2, j3, j4, j6, j7, j8, j10, j11, hi, hdl, htl]) (by simp -implicitDefEqProofs (disch := omega) only [go_sem]) (by simp -implicitDefEqProofs (disch := omega) only [go_sem]) (by decide) (by simp -implicitDefEqProofs (disch := first | assumption | (simp only [hd, k]; done) | omega) only [go_sem, e0, e1, e5, m0_0, n0_0, m0_1, n0_1, m1_0, j0, j1, j2, j3, j4, j6, j7, j8, j10, j11, hi, hdl, htl]) (by simp) (boundA_of (k := .i64) (n := (i : Int)) (by simp -implicitDefEqProofs (disch := first | assumption | (simp only [hd, k]; done) | omega) only [go_sem, e0, e1, e5, m0_0, n0_0, m0_1, n0_1, m1_0, j0, j1, j2, j3, j4, j6, j7, j8, j10, j11, hi, hdl, htl]) (by omega) ⟨rfl, by omega, Nat.zero_le _, by rw [List.length_map]; exact hi⟩) ?_; rw [List.drop_zero, Nat.sub_zero, ← List.map_take]; simp -implicitDefEqProofs (disch := first | assumption | (simp only [hd, k]; done) | omega) only [go_sem, e0, e1, e5, m0_0, n0_0, m0_1, n0_1, m1_0, j0, j1, j2, j3, j4, j6, j7, j8, j10, j11, hi, hdl, htl])
        repeat' apply And.intro
        all_goals first | assumption | (intro _; assumption) | trivial | (simp -implicitDefEqProofs (contextual := true) (disch := first | assumption | omega) only [go_sem, m0_0, n0_0, m0_1, n0_1, m1_0, j0, j1, j2, j3, j4, j6, j7, j8, j10, j11, hd, c10_9, c10_3, c11_10, c9_5, k, implies_true, forall_const, false_implies, true_implies]; done) | (intro h; intros; exfalso; simp (maxDischargeDepth := 9) [hd, k] at h; done) | (intros; contradiction) | trace_state
    · intro o ho
      obtain rfl := Option.some.inj ho
      refine ⟨rfl, ?_⟩
      rintro D E σ ⟨e0, e1, e5, c10_9, c10_3, c11_10, c9_5, m0_0, n0_0, m0_1, n0_1, m1_0, j0, j1, j2, j3, j4, j6, j7, j8, j10, j11⟩ hd
      have k := And.intro trivial <| And.intro (cK c10_9) <| And.intro (cK c10_3) <| And.intro (cK c11_10) <| And.intro (cK c9_5) trivial
      obtain ⟨hD, h3, h9, _⟩ := hd
      have h3 : D 3 = true := h3 rfl
      have h9 : D 9 = true := h9 rfl
      have q3 := j3 h3
      have qm := m0_1 h9
      have qn := n0_1 h9
      refine appendCut_mk (es := (l.take i).map I) (xs := I n :: (l.drop i).map I) (sz := 1) (e := 3) (d := 43) (z := .int .i64 0) (by simp -implicitDefEqProofs (disch := omega) only [go_sem, q3]) (by simp -implicitDefEqProofs (disch := omega) only [go_sem]) (by simp -implicitDefEqProofs (disch := omega) only [go_sem]) (by decide) (by kernel_rfl) rfl (by simp -implicitDefEqProofs (disch := omega) only [go_sem]) (by intro s; simp -implicitDefEqProofs (disch := omega) only [go_sem, qn]; intro h; cases h) ?_ (by simp) ?_ ?_ ?_ ?_ ?_
      · simp only [srcEls, ev]; rw [qn]; exact ⟨_, qm, rfl, by simp [hdl]; omega, rfl, by rw [List.drop_zero, List.take_of_length_le (by simp [hdl]; omega)]⟩
      · intro e he; rcases List.mem_cons.1 he with rfl | he; rfl; obtain ⟨x, _, rfl⟩ := List.mem_map.1 he; rfl
      · have e8 : tby (spB Tryz.prog 100 44 [6]).P 3 = 8 := by kernel_rfl
        rw [e8]; simp [htl, hdl]; omega
      · simp [htl, hdl]; omega
      · rw [show (l.take i).map I ++ I n :: (l.drop i).map I = (l.take i ++ n :: l.drop i).map I by simp]; exact namesL_ints _ _
      have elen : ((l.take i).map I).length + (I n :: (l.drop i).map I).length = l.length + 1 := by simp [htl, hdl]; omega
      rw [elen]
      simp -implicitDefEqProofs (disch := omega) only [go_sem, e0, e1, e5, hD, h3, h9, q3, qm, qn]
      repeat' apply And.intro
      all_goals first | assumption | exact fun _ => trivial | exact fun _ => c9_5 h9 | exact fun _ h => h.elim | (intro h; rw [j0 h]; rfl) | (intro h; rw [j1 h]; rfl) | (intro h; rw [j2 h]; rfl) | (intro h; rw [j4 h]; rfl) | (intro h; rw [j6 h]; rfl) | (intro h; rw [j7 h]; rfl) | (intro h; rw [j8 h]; rfl) | (intro h; have := c11_10 h; rw [hD] at this; cases this)
    · rintro D E σ hD ⟨e0, e1, e5, c10_9, c10_3, c11_10, c9_5, m0_0, n0_0, m0_1, n0_1, m1_0, j0, j1, j2, j3, j4, j6, j7, j8, j10, j11⟩
      have g0 := m0_1 (hD 9 (by decide))
      have f0 := n0_1 (hD 9 (by decide))
      have g1 := m1_0 (hD 10 (by decide))
      have q0 := j0 (hD 0 (by decide))
      have q1 := j1 (hD 1 (by decide))
      have q2 := j2 (hD 2 (by decide))
      have q3 := j3 (hD 3 (by decide))
      have q4 := j4 (hD 4 (by decide))
      have q6 := j6 (hD 6 (by decide))
      have q7 := j7 (hD 7 (by decide))
      have q8 := j8 (hD 8 (by decide))
      have q10 := j10 (hD 10 (by decide))
      have q11 := j11 (hD 11 (by decide))
      clear c10_9 c10_3 c11_10 c9_5 m0_0 n0_0 m0_1 n0_1 m1_0 j0 j1 j2 j3 j4 j6 j7 j8 j10 j11 hD
      have hj : (l.take i).map I ++ I n :: (l.drop i).map I = (l.take i ++ n :: l.drop i).map I := by simp
      rw [hj] at g1
      have hlen : (l.take i ++ n :: l.drop i).length = l.length + 1 := by simp [hdl]; omega
      generalize l.take i ++ n :: l.drop i = q at *
      simp -implicitDefEqProofs (disch := omega) only [go_sem, q11, g1, hlen, Tryz.results100]
      try rw [← hlen, List.take_length]
theorem putR_ev (l : List Int) (n : Int) (hl : l.length ≤ 1000000) : Ev Tryz.prog 100 [SL l, I n] (SL (putE l n)) := by
  by_cases h : stopE l n
  · exact putR0 l n hl _ (fun _ => rfl) fun h' => absurd h h'
  · exact ev_sl (putR0 l n hl (.new 3 1 ((putE l n).map I)) (fun h' => absurd h' h) fun _ => rfl) _
end Go.Proofs.YthkihocapdfonaaGreatDoor
set_option maxRecDepth 100000
namespace Go.Proofs.YthkihocapdfonaaGreatDoor
open Go.Vai Go Go.Proofs
open Nat (reduceEqDiff reduceMul reduceAdd reduceDiv reduceLeDiff)
open Int (reduceToNat reduceNe reduceEq reduceLT reduceLE)
theorem putE_len (n : Int) : ∀ l : List Int, (putE l n).length ≤ l.length + 1
  | [] => Nat.le_refl _
  | x :: l => by
    rw [putE]; split
    · simp only [List.length_cons]; have := putE_len n l; omega
    split <;> simp
theorem edgN_succ (l : List Bk) (o : List Int) {i : Nat} (hi : i < l.length) : edgN (l.take (i + 1)) o = putE (putE (edgN (l.take i) o) (gd l i).f) (gd l i).t := by
  unfold edgN; rw [take_succ' l i hi, List.foldl_append]; rfl
theorem edgN_len (o : List Int) : ∀ (l : List Bk), (edgN l o).length ≤ o.length + 2 * l.length := by
  intro l
  induction l generalizing o with
  | nil => simp [edgN]
  | cons b l ih =>
    show (edgN l (putE (putE o b.f) b.t)).length ≤ _
    have h1 := ih (putE (putE o b.f) b.t)
    have h2 := putE_len b.t (putE o b.f)
    have h3 := putE_len b.f o
    simp only [List.length_cons]; omega
set_option maxHeartbeats 1000000 in
theorem edgesR_ev (a b : List Bk) (la : a.length ≤ 1000) (lb : b.length ≤ 1000) : Ev Tryz.prog 73 [BL a, BL b] (SL (edgF a b)) := by
  refine ev_ofB [2] Tryz.func73 rfl (by kernel_rfl) mo (Nat.le_of_ble_eq_true rfl) ?_
  simp -implicitDefEqProofs (disch := omega) only [go_sem, Tryz.ntmps73]
  refine freeze_reg Plain.mono [155189376] ?_
  simp -implicitDefEqProofs (disch := omega) only [go_sem]
  have hab : edgF a b = edgN b (edgN a [0, 100000000]) := rfl
  refine loopC_mk (fun k E σ => ∃ i : Nat, i + k = a.length ∧ E 0 = BL a ∧ E 1 = BL b ∧ E 5 = SL (edgN (a.take i) [0, 100000000]) ∧ E 6 = I i) a.length ⟨0, by omega, ?_⟩ ?_
  · simp -implicitDefEqProofs (disch := omega) only [go_sem]
    exact ⟨rfl, rfl⟩
  rintro k E σ ⟨i, hk, e0, e1, e5, e6⟩
  simp -implicitDefEqProofs (disch := omega) only [go_sem, e0, e1, e5, e6]
  refine branch_mk (fun hc => ?_) (fun hc => ?_)
  · have hi : i < a.length := by omega
    have hs := edgN_succ a [0, 100000000] hi
    have hl := edgN_len [0, 100000000] (a.take i)
    rw [List.length_take] at hl
    simp only [List.length_cons, List.length_nil] at hl
    obtain ⟨g2, hg2⟩ : ∃ g, edgN (a.take (i + 1)) [0, 100000000] = g := ⟨_, rfl⟩
    rw [hg2] at hs
    generalize edgN (a.take i) [0, 100000000] = g at *
    have hp := putE_len (gd a i).f g
    simp -implicitDefEqProofs (disch := omega) only [go_sem, e0, e1, e5, e6]
    refine callC_at (putR_ev g (gd a i).f (by omega)) ?_ (h4 := .inr (dn_SL _))
    simp -implicitDefEqProofs (disch := omega) only [go_sem, e0, e1, e5, e6]
    refine callC_at (putR_ev _ (gd a i).t (by omega)) ?_ (h4 := .inr (dn_SL _))
    simp -implicitDefEqProofs (disch := omega) only [go_sem, e0, e1, e5, e6]
    refine againQ_mk (a.length - (i + 1)) (by omega) ⟨i + 1, by omega, ?_⟩
    simp -implicitDefEqProofs (disch := omega) only [go_sem, e0, e1, e5, e6]
    rw [hg2, hs]
    exact ⟨rfl, rfl⟩
  obtain rfl : i = a.length := by omega
  rw [List.take_length] at e5
  have hl0 := edgN_len [0, 100000000] a
  simp only [List.length_cons, List.length_nil] at hl0
  generalize edgN a [0, 100000000] = o at *
  simp -implicitDefEqProofs (disch := omega) only [go_sem, e0, e1, e5, e6]
  refine loopC_mk (fun k E σ => ∃ i : Nat, i + k = b.length ∧ E 1 = BL b ∧ E 5 = SL (edgN (b.take i) o) ∧ E 7 = I i) b.length ⟨0, by omega, ?_⟩ ?_
  · simp -implicitDefEqProofs (disch := omega) only [go_sem, e0, e1, e5, e6]
    exact ⟨rfl, rfl⟩
  clear e0 e1 e5 e6 hk hc E σ k
  rintro k E σ ⟨i, hk, e1, e5, e7⟩
  simp -implicitDefEqProofs (disch := omega) only [go_sem, e1, e5, e7]
  refine branch_mk (fun hc => ?_) (fun hc => ?_)
  · have hi : i < b.length := by omega
    have hs := edgN_succ b o hi
    have hl := edgN_len o (b.take i)
    rw [List.length_take] at hl
    obtain ⟨g2, hg2⟩ : ∃ g, edgN (b.take (i + 1)) o = g := ⟨_, rfl⟩
    rw [hg2] at hs
    generalize edgN (b.take i) o = g at *
    have hp := putE_len (gd b i).f g
    simp -implicitDefEqProofs (disch := omega) only [go_sem, e1, e5, e7]
    refine callC_at (putR_ev g (gd b i).f (by omega)) ?_ (h4 := .inr (dn_SL _))
    simp -implicitDefEqProofs (disch := omega) only [go_sem, e1, e5, e7]
    refine callC_at (putR_ev _ (gd b i).t (by omega)) ?_ (h4 := .inr (dn_SL _))
    simp -implicitDefEqProofs (disch := omega) only [go_sem, e1, e5, e7]
    refine againQ_mk (b.length - (i + 1)) (by omega) ⟨i + 1, by omega, ?_⟩
    simp -implicitDefEqProofs (disch := omega) only [go_sem, e1, e5, e7]
    rw [hg2, hs]
    exact ⟨rfl, rfl⟩
  · obtain rfl : i = b.length := by omega
    rw [List.take_length] at e5
    simp -implicitDefEqProofs (disch := omega) only [go_sem, e1, e5, e7, hab, Tryz.results73]
end Go.Proofs.YthkihocapdfonaaGreatDoor
set_option maxRecDepth 100000
namespace Go.Proofs.YthkihocapdfonaaGreatDoor
open Go.Vai Go Go.Proofs
open Nat (reduceEqDiff reduceMul reduceAdd reduceDiv reduceLeDiff)
open Int (reduceToNat reduceNe reduceEq reduceLT reduceLE)
theorem pcR_succ (a b : List Bk) : ∀ (e : List Int) (i : Nat), i + 1 < e.length → pcR a b (e.take (i + 2)) = pcR a b (e.take (i + 1)) ++ [(gd e i, gd e (i + 1), holdB a (gd e i), holdB b (gd e i))]
  | [], _, h => by simp at h
  | [x], i, h => by simp at h
  | x :: y :: l, 0, _ => rfl
  | x :: y :: l, i + 1, h => by
    have ih := pcR_succ a b (y :: l) i (by simpa using h)
    have e1 : (x :: y :: l).take (i + 1 + 2) = x :: y :: l.take (i + 1) := rfl
    have e2 : (x :: y :: l).take (i + 1 + 1) = x :: y :: l.take i := rfl
    have e3 : (y :: l).take (i + 2) = y :: l.take (i + 1) := rfl
    have e4 : (y :: l).take (i + 1) = y :: l.take i := rfl
    rw [e3, e4] at ih
    rw [e1, e2, pcR, pcR, ih]; rfl
theorem pcR_len (a b : List Bk) : ∀ e : List Int, (pcR a b e).length ≤ e.length
  | [] => Nat.le_refl _
  | [x] => Nat.zero_le _
  | x :: y :: l => by
    have ih := pcR_len a b (y :: l)
    rw [pcR]; simp only [List.length_cons] at ih ⊢; omega
theorem cmb_fold_len (h : Int → Int → Int) : ∀ (l : List Pc) (o : List Bk), (l.foldl (cmbS h) o).length ≤ o.length + l.length
  | [], _ => Nat.le_refl _
  | q :: l, o => by
    rw [List.foldl_cons]
    have h1 := cmb_fold_len h l (cmbS h o q)
    have h2 := cmbS_len h o q
    simp only [List.length_cons]; omega
theorem set_BP (l : List Bk) (k : Nat) (a b c : Int) : (l.map BP).set k (.agg [I a, I b, I c]) = (l.set k ⟨a, b, c⟩).map BP := by rw [List.map_set]
def WayF (w : Int) (H : Int → Int → Int) : Prop := (w = 0 ∧ H = overF) ∨ (w = 1 ∧ H = awayF)
set_option maxHeartbeats 2000000 in
theorem combR0 (w : Int) (H : Int → Int → Int) (hw : WayF w H) (a b : List Bk) (ha : canon 0 (-1) a) (hb : canon 0 (-1) b) (la : a.length ≤ 1000) (lb : b.length ≤ 1000) : Ev Tryz.prog 93 [BL a, BL b, I w, I (-1), I (-1)] (limR (cmbR H a b)) := by
  obtain ⟨e0l, he0⟩ := edgF_head ha hb
  have hel := edgN_len [0, 100000000] a
  have hel2 := edgN_len (edgN a [0, 100000000]) b
  simp only [List.length_cons, List.length_nil] at hel
  have hE : (edgF a b).length ≤ 10000 := by unfold edgF; omega
  have hE1 : 1 ≤ (edgF a b).length := by rw [he0]; simp
  have hok : Hok H := by rcases hw with ⟨_, rfl⟩ | ⟨_, rfl⟩ <;> first | exact over_ok | exact away_ok
  have hcan : canon 0 (-1) (cmbR H a b) := by rw [cmbR_eq hok ha hb]; exact (cmbF_spec hok ha hb).1
  have cedg := edgesR_ev a b la lb
  have hcR : cmbR H a b = (pcR a b (edgF a b)).foldl (cmbS H) [] := rfl
  generalize edgF a b = e at *
  refine ev_of Tryz.func93 rfl (by kernel_rfl) mo (Nat.le_of_ble_eq_true rfl) ?_
  simp -implicitDefEqProofs (disch := omega) only [go_sem, Tryz.ntmps93]
  refine callC_at cedg ?_
  simp -implicitDefEqProofs (disch := omega) only [go_sem]
  refine loopC_mk (fun k E σ => ∃ (i : Nat) (o : List Bk), i + 1 + k = e.length ∧ o = (pcR a b (e.take (i + 1))).foldl (cmbS H) [] ∧ E 0 = BL a ∧ E 1 = BL b ∧ E 2 = I w ∧ E 3 = I (-1) ∧ E 4 = I (-1) ∧ E 12 = SL e ∧ E 13 = .own 197132496 3 0 o.length ∧ σ 197132496 = some ⟨66, 3, o.map BP⟩ ∧ E 14 = I i) (e.length - 1) ⟨0, [], by omega, ?_, ?_⟩ ?_
  · rw [he0]; rfl
  · simp -implicitDefEqProofs (disch := omega) only [go_sem]
    simp
  rintro k E σ ⟨i, o, hk, ho, e0, e1, e2, e3, e4, e12, e13, s13, e14⟩
  have hol : o.length ≤ 20000 := by
    rw [ho]
    have h1 := cmb_fold_len H (pcR a b (e.take (i + 1))) []
    have h2 := pcR_len a b (e.take (i + 1))
    rw [List.length_take] at h2
    simp only [List.length_nil] at h1; omega
  simp -implicitDefEqProofs (disch := omega) only [go_sem, e0, e1, e2, e3, e4, e12, e13, s13, e14]
  refine branch_mk (fun hc => ?_) (fun hc => ?_)
  · have hi : i + 1 < e.length := by omega
    have hps := pcR_succ a b e i hi
    have hp2 : (pcR a b (e.take (i + 2))).foldl (cmbS H) [] = cmbS H o (gd e i, gd e (i + 1), holdB a (gd e i), holdB b (gd e i)) := by
      rw [hps, List.foldl_append, ← ho]; rfl
    have hcs : cmbS H o (gd e i, gd e (i + 1), holdB a (gd e i), holdB b (gd e i)) = if H (holdB a (gd e i)) (holdB b (gd e i)) = -1 then o
      else if 0 < o.length ∧ (gd o (o.length - 1)).t = gd e i ∧ (gd o (o.length - 1)).c = H (holdB a (gd e i)) (holdB b (gd e i)) then o.set (o.length - 1) ⟨(gd o (o.length - 1)).f, gd e (i + 1), (gd o (o.length - 1)).c⟩
      else o ++ [⟨gd e i, gd e (i + 1), H (holdB a (gd e i)) (holdB b (gd e i))⟩] := rfl
    have hx := hold_in ha (gd e i)
    have hy := hold_in hb (gd e i)
    have c1 := holderR_ev a (gd e i) (by omega)
    have c2 := holderR_ev b (gd e i) (by omega)
    have hei : ((i : Int) + 1).toNat = i + 1 := by omega
    obtain ⟨o2, ho2⟩ : ∃ o2, (pcR a b (e.take (i + 2))).foldl (cmbS H) [] = o2 := ⟨_, rfl⟩
    rw [ho2] at hp2
    rw [← hp2] at hcs
    clear hp2 hps
    generalize holdB a (gd e i) = x at *
    generalize holdB b (gd e i) = y at *
    obtain ⟨z, hz⟩ : ∃ z, H x y = z := ⟨_, rfl⟩
    rw [hz] at hcs
    simp -implicitDefEqProofs (disch := omega) only [go_sem, e0, e1, e2, e3, e4, e12, e13, s13, e14]
    refine callC_at c1 ?_
    simp -implicitDefEqProofs (disch := omega) only [go_sem, e0, e1, e2, e3, e4, e12, e13, s13, e14]
    refine callC_at c2 ?_
    rcases hw with ⟨rfl, rfl⟩ | ⟨rfl, rfl⟩
    all_goals by_cases hy0 : 0 ≤ y
    rotate_left 2
    · have hzy : z = -1 := by rw [← hz]; unfold awayF; rw [if_neg (by omega)]
      subst hzy
      rw [if_pos rfl] at hcs
      simp -implicitDefEqProofs (disch := omega) only [go_sem, e0, e1, e2, e3, e4, e12, e13, s13, e14]
      refine branch_l hy0 ?_
      simp -implicitDefEqProofs (disch := omega) only [go_sem, e0, e1, e2, e3, e4, e12, e13, s13, e14]
      refine branch_l hy0 ?_
      simp -implicitDefEqProofs (disch := omega) only [go_sem, e0, e1, e2, e3, e4, e12, e13, s13, e14]
      refine againQ_mk (e.length - (i + 2)) (by omega) ⟨i + 1, o2, by omega, ho2.symm, ?_⟩
      rw [hcs]
      simp -implicitDefEqProofs (disch := omega) only [go_sem, e0, e1, e2, e3, e4, e12, e13, s13, e14]
      rfl
    all_goals
      have hzw : z = x ∨ 0 ≤ z := by
        first
          | exact .inl (by rw [← hz]; unfold awayF; rw [if_pos (by omega)])
          | exact .inl (by rw [← hz]; unfold overF; rw [if_neg (by omega)])
          | exact .inr (by rw [← hz]; unfold overF; rw [if_pos (by omega)]; exact hy0)
      have hzm : z = -1 ∨ 0 ≤ z := by
        rcases hzw with h | h
        · rw [h]; rcases hx with h | h
          · exact .inl h
          · exact .inr h.1
        · exact .inr h
      first
        | (have hzx : z = x := (by rw [← hz]; unfold awayF; rw [if_pos (by omega)]); clear hz hzw; subst hzx)
        | (have hzx : z = x := (by rw [← hz]; unfold overF; rw [if_neg (by omega)]); clear hz hzw; subst hzx)
        | (have hzy : z = y := (by rw [← hz]; unfold overF; rw [if_pos (by omega)]); clear hz hzw; subst hzy)
      by_cases hz0 : 0 ≤ z
      · have hm1 : ¬ z = -1 := by omega
        have hzl : ¬ z < 0 := by omega
        rw [if_neg hm1] at hcs
        simp -implicitDefEqProofs (disch := omega) only [go_sem, e0, e1, e2, e3, e4, e12, e13, s13, e14]
        repeat (first | refine branch_l hy0 ?_ | refine branch_r hy0 ?_ | refine branch_l hz0 ?_ | refine branch_r hm1 ?_ | refine branch_r hzl ?_); simp -implicitDefEqProofs (disch := omega) only [go_sem, e0, e1, e2, e3, e4, e12, e13, s13, e14]
        refine branch_mk (fun h0 => ?_) (fun h0 => ?_)
        · have em : (max ((o.length : Int) - 1) 0).toNat = o.length - 1 := by omega
          have em2 : ((o.length : Int) - 1).toNat = o.length - 1 := by omega
          simp -implicitDefEqProofs (disch := omega) only [go_sem, e0, e1, e2, e3, e4, e12, e13, s13, e14, em]
          refine branch_mk (fun h1 => ?_) (fun h1 => ?_)
          · simp -implicitDefEqProofs (disch := omega) only [go_sem, e0, e1, e2, e3, e4, e12, e13, s13, e14, em]
            refine branch_mk (fun h2 => ?_) (fun h2 => ?_)
            · rw [if_pos ⟨by omega, h1, h2⟩] at hcs
              simp -implicitDefEqProofs (disch := omega) only [go_sem, e0, e1, e2, e3, e4, e12, e13, s13, e14, em2, hei]
              refine againQ_mk (e.length - (i + 2)) (by omega) ⟨i + 1, o2, by omega, ho2.symm, ?_⟩
              rw [hcs]
              simp -implicitDefEqProofs (disch := omega) only [go_sem, e0, e1, e2, e3, e4, e12, e13, s13, e14, and_self, set_BP, List.length_set]
              rfl
            · rw [if_neg fun h => h2 h.2.2] at hcs
              simp -implicitDefEqProofs (disch := omega) only [go_sem, e0, e1, e2, e3, e4, e12, e13, s13, e14, hei]
              refine againQ_mk (e.length - (i + 2)) (by omega) ⟨i + 1, o2, by omega, ho2.symm, ?_⟩
              rw [hcs]
              simp -implicitDefEqProofs (disch := omega) only [go_sem, e0, e1, e2, e3, e4, e12, e13, s13, e14, List.length_append, List.length_cons, List.length_nil]
              rfl
          · rw [if_neg fun h => h1 h.2.1] at hcs
            simp -implicitDefEqProofs (disch := omega) only [go_sem, e0, e1, e2, e3, e4, e12, e13, s13, e14, hei]
            refine againQ_mk (e.length - (i + 2)) (by omega) ⟨i + 1, o2, by omega, ho2.symm, ?_⟩
            rw [hcs]
            simp -implicitDefEqProofs (disch := omega) only [go_sem, e0, e1, e2, e3, e4, e12, e13, s13, e14, List.length_append, List.length_cons, List.length_nil]
            rfl
        · rw [if_neg fun h => h0 (by omega)] at hcs
          simp -implicitDefEqProofs (disch := omega) only [go_sem, e0, e1, e2, e3, e4, e12, e13, s13, e14, hei]
          refine againQ_mk (e.length - (i + 2)) (by omega) ⟨i + 1, o2, by omega, ho2.symm, ?_⟩
          rw [hcs]
          simp -implicitDefEqProofs (disch := omega) only [go_sem, e0, e1, e2, e3, e4, e12, e13, s13, e14, List.length_append, List.length_cons, List.length_nil]
          rfl
      · first
          | (exfalso; omega; done)
          | (have hm1 : z = -1 := by omega
             have hzl : z < 0 := by omega
             rw [if_pos hm1] at hcs
             simp -implicitDefEqProofs (disch := omega) only [go_sem, e0, e1, e2, e3, e4, e12, e13, s13, e14]
             repeat (first | refine branch_l hy0 ?_ | refine branch_r hy0 ?_ | refine branch_r hz0 ?_ | refine branch_l hm1 ?_ | refine branch_l hzl ?_); simp -implicitDefEqProofs (disch := omega) only [go_sem, e0, e1, e2, e3, e4, e12, e13, s13, e14]
             refine againQ_mk (e.length - (i + 2)) (by omega) ⟨i + 1, o2, by omega, ho2.symm, ?_⟩
             rw [hcs]
             simp -implicitDefEqProofs (disch := omega) only [go_sem, e0, e1, e2, e3, e4, e12, e13, s13, e14]
             rfl)
  · have hi : i + 1 = e.length := by omega
    rw [hi, List.take_length] at ho
    rw [← hcR] at ho
    have cv := validR_ev o (by omega)
    simp -implicitDefEqProofs (disch := omega) only [go_sem, e0, e1, e2, e3, e4, e12, e13, s13, e14]
    refine callC_at cv ?_
    have hv : validB o = decide (o.length ≤ 40) := by
      unfold validB; rw [decide_eq_true (p := canon 0 (-1) o) (by rw [ho]; exact hcan), Bool.and_true]
    by_cases h40 : o.length ≤ 40
    · rw [decide_eq_true h40] at hv
      have hl : limR (cmbR H a b) = .tup [.new 66 3 (o.map BP), I 0] := by rw [← ho]; exact if_pos h40
      rw [hl]
      simp -implicitDefEqProofs (disch := omega) only [go_sem, e0, e1, e2, e3, e4, e12, e13, s13, e14, hv, List.take_length, Tryz.results93]
    · rw [decide_eq_false h40] at hv
      have hl : limR (cmbR H a b) = .tup [.new 66 3 [], I 130] := by rw [← ho]; exact if_neg h40
      rw [hl]
      simp -implicitDefEqProofs (disch := omega) only [go_sem, e0, e1, e2, e3, e4, e12, e13, s13, e14, hv, Tryz.results93]
theorem combR_ev (w : Int) (H : Int → Int → Int) (hw : WayF w H) (a b : List Bk) (ha : canon 0 (-1) a) (hb : canon 0 (-1) b) (la : a.length ≤ 1000) (lb : b.length ≤ 1000) : Ev Tryz.prog 93 [BL a, BL b, I w, I (-1), I (-1)] (optR (lim (cmbF H a b)) 130) := by
  have hok : Hok H := by rcases hw with ⟨_, rfl⟩ | ⟨_, rfl⟩ <;> first | exact over_ok | exact away_ok
  have := combR0 w H hw a b ha hb la lb
  rw [cmbR_eq hok ha hb] at this
  unfold limR at this
  unfold lim
  split at this
  · rename_i hl
    rw [if_pos hl]
    exact ev_sl this _
  · rename_i hl
    rw [if_neg hl]
    exact ev_sl this _
theorem oneR_ev (f t c : Int) : Ev Tryz.prog 94 [.agg [I f, I t], I c] (BL [⟨f, t, c⟩]) := by
  refine ev_sl (r := .new 66 3 ([(⟨f, t, c⟩ : Bk)].map BP)) ?_ _
  refine ev_of Tryz.func94 rfl (by kernel_rfl) mo (Nat.le_of_ble_eq_true rfl) ?_
  simp -implicitDefEqProofs (disch := omega) only [go_sem, Tryz.ntmps94, Tryz.results94]
  try rfl
theorem giveR_ev (m : List Bk) (f t c : Int) (hl : m.length ≤ 1000) : Ev Tryz.prog 69 [BL m, .agg [I f, I t], I c] (optR (giveF m f t c) 130) := by
  suffices key : ∀ R, (¬ (validB m = true ∧ rOK f t ∧ cOK c) → R = .tup [.new 66 3 [], I 130]) → (validB m = true ∧ rOK f t ∧ cOK c → R = optR (lim (cmbF overF m [⟨f, t, c⟩])) 130) → Ev Tryz.prog 69 [BL m, .agg [I f, I t], I c] R by
    unfold giveF
    by_cases h : validB m = true ∧ rOK f t ∧ cOK c
    · rw [if_pos h]; exact key _ (fun h' => (h' h).elim) fun _ => rfl
    · rw [if_neg h]
      exact ev_sl (key _ (fun _ => rfl) fun h' => (h h').elim) _
  intro R hR0 hR1
  refine ev_of Tryz.func69 rfl (by kernel_rfl) mo (Nat.le_of_ble_eq_true rfl) ?_
  simp -implicitDefEqProofs (disch := omega) only [go_sem, Tryz.ntmps69]
  refine callC_at (validR_ev m (by omega)) ?_
  simp -implicitDefEqProofs (disch := omega) only [go_sem]
  refine branch_mk (fun h1 => ?_) (fun h1 => ?_)
  · rw [hR0 (fun h => by rw [h1] at h; cases h.1)]
    simp -implicitDefEqProofs (disch := omega) only [go_sem, h1, Tryz.results69]
  have h1 : validB m = true := by simpa using h1
  simp -implicitDefEqProofs (disch := omega) only [go_sem, h1]
  refine callC_at (rangeR_ev f t) ?_
  simp -implicitDefEqProofs (disch := omega) only [go_sem, h1]
  refine branch_mk (fun h2 => ?_) (fun h2 => ?_)
  · rw [hR0 (fun h => h2 h.2.1)]
    simp -implicitDefEqProofs (disch := omega) only [go_sem, h2, Tryz.results69]
  have h2 : rOK f t := by simpa using h2
  simp -implicitDefEqProofs (disch := omega) only [go_sem, h1, h2]
  refine callC_at (carR_ev c) ?_
  simp -implicitDefEqProofs (disch := omega) only [go_sem, h1, h2]
  refine branch_mk (fun h3 => ?_) (fun h3 => ?_)
  · rw [hR0 (fun h => h3 h.2.2)]
    simp -implicitDefEqProofs (disch := omega) only [go_sem, h3, Tryz.results69]
  have h3 : cOK c := by simpa using h3
  rw [hR1 ⟨h1, h2, h3⟩]
  simp -implicitDefEqProofs (disch := omega) only [go_sem, h1, h2, h3]
  refine callC_at (oneR_ev f t c) ?_
  simp -implicitDefEqProofs (disch := omega) only [go_sem]
  have hc := combR_ev 0 overF (.inl ⟨rfl, rfl⟩) m [⟨f, t, c⟩] (validB_iff.1 h1).2 (one_canon h2 h3) hl (by simp)
  generalize lim (cmbF overF m [⟨f, t, c⟩]) = o at *
  refine callC_at hc ?_
  simp -implicitDefEqProofs (disch := omega) only [go_sem, Tryz.results69]
theorem takeR_ev (m : List Bk) (f t : Int) (hl : m.length ≤ 1000) : Ev Tryz.prog 68 [BL m, .agg [I f, I t]] (optR (takeF m f t) 130) := by
  suffices key : ∀ R, (¬ (validB m = true ∧ rOK f t) → R = .tup [.new 66 3 [], I 130]) → (validB m = true ∧ rOK f t → R = optR (lim (cmbF awayF m [⟨f, t, 0⟩])) 130) → Ev Tryz.prog 68 [BL m, .agg [I f, I t]] R by
    unfold takeF
    by_cases h : validB m = true ∧ rOK f t
    · rw [if_pos h]; exact key _ (fun h' => (h' h).elim) fun _ => rfl
    · rw [if_neg h]
      exact ev_sl (key _ (fun _ => rfl) fun h' => (h h').elim) _
  intro R hR0 hR1
  refine ev_of Tryz.func68 rfl (by kernel_rfl) mo (Nat.le_of_ble_eq_true rfl) ?_
  simp -implicitDefEqProofs (disch := omega) only [go_sem, Tryz.ntmps68]
  refine callC_at (validR_ev m (by omega)) ?_
  simp -implicitDefEqProofs (disch := omega) only [go_sem]
  refine branch_mk (fun h1 => ?_) (fun h1 => ?_)
  · rw [hR0 (fun h => by rw [h1] at h; cases h.1)]
    simp -implicitDefEqProofs (disch := omega) only [go_sem, h1, Tryz.results68]
  have h1 : validB m = true := by simpa using h1
  simp -implicitDefEqProofs (disch := omega) only [go_sem, h1]
  refine callC_at (rangeR_ev f t) ?_
  simp -implicitDefEqProofs (disch := omega) only [go_sem, h1]
  refine branch_mk (fun h2 => ?_) (fun h2 => ?_)
  · rw [hR0 (fun h => h2 h.2)]
    simp -implicitDefEqProofs (disch := omega) only [go_sem, h2, Tryz.results68]
  have h2 : rOK f t := by simpa using h2
  rw [hR1 ⟨h1, h2⟩]
  simp -implicitDefEqProofs (disch := omega) only [go_sem, h1, h2]
  refine callC_at (oneR_ev f t 0) ?_
  simp -implicitDefEqProofs (disch := omega) only [go_sem]
  have hc := combR_ev 1 awayF (.inr ⟨rfl, rfl⟩) m [⟨f, t, 0⟩] (validB_iff.1 h1).2 (one_canon h2 (by decide)) hl (by simp)
  generalize lim (cmbF awayF m [⟨f, t, 0⟩]) = o at *
  refine callC_at hc ?_
  simp -implicitDefEqProofs (disch := omega) only [go_sem, Tryz.results68]
end Go.Proofs.YthkihocapdfonaaGreatDoor
set_option maxRecDepth 100000
namespace Go.Proofs.YthkihocapdfonaaGreatDoor
open Go.Vai Go Go.Proofs
open Nat (reduceEqDiff reduceMul reduceAdd reduceDiv reduceLeDiff)
open Int (reduceToNat reduceNe reduceEq reduceLT reduceLE)
theorem dif_fold_len : ∀ (l : List Pc) (o : List Rg), (l.foldl difS o).length ≤ o.length + l.length
  | [], _ => Nat.le_refl _
  | q :: l, o => by
    rw [List.foldl_cons]
    have h1 := dif_fold_len l (difS o q)
    have h2 : (difS o q).length ≤ o.length + 1 := by unfold difS; repeat' split
                                                     all_goals simp
    simp only [List.length_cons]; omega
theorem set_RP (l : List Rg) (k : Nat) (a b : Int) : (l.map RP).set k (.agg [I a, I b]) = (l.set k (a, b)).map RP := by rw [List.map_set]
set_option maxHeartbeats 2000000 in
theorem differR_ev (a b : List Bk) (va : validB a = true) (vb : validB b = true) : Ev Tryz.prog 52 [BL a, BL b] (.tup [RL (difF a b), I 0]) := by
  refine ev_sl (r := .tup [.new 64 2 ((difF a b).map RP), I 0]) ?_ _
  have ha := (validB_iff.1 va).2
  have hb := (validB_iff.1 vb).2
  have la := (validB_iff.1 va).1
  have lb := (validB_iff.1 vb).1
  rw [← difR_eq ha hb]
  obtain ⟨e0l, he0⟩ := edgF_head ha hb
  have hel := edgN_len [0, 100000000] a
  have hel2 := edgN_len (edgN a [0, 100000000]) b
  simp only [List.length_cons, List.length_nil] at hel
  have hE : (edgF a b).length ≤ 10000 := by unfold edgF; omega
  have hE1 : 1 ≤ (edgF a b).length := by rw [he0]; simp
  have cedg := edgesR_ev a b (by omega) (by omega)
  have hcR : difR a b = (pcR a b (edgF a b)).foldl difS [] := rfl
  generalize edgF a b = e at *
  refine ev_of Tryz.func52 rfl (by kernel_rfl) mo (Nat.le_of_ble_eq_true rfl) ?_
  simp -implicitDefEqProofs (disch := omega) only [go_sem, Tryz.ntmps52]
  have cva := validR_ev a (by omega)
  have cvb := validR_ev b (by omega)
  rw [va] at cva
  rw [vb] at cvb
  refine callC_at cva ?_
  simp -implicitDefEqProofs (disch := omega) only [go_sem]
  refine callC_at cvb ?_
  simp -implicitDefEqProofs (disch := omega) only [go_sem]
  refine callC_at cedg ?_
  simp -implicitDefEqProofs (disch := omega) only [go_sem]
  refine loopC_mk (fun k E σ => ∃ (i : Nat) (o : List Rg), i + 1 + k = e.length ∧ o = (pcR a b (e.take (i + 1))).foldl difS [] ∧ E 0 = BL a ∧ E 1 = BL b ∧ E 6 = SL e ∧ E 7 = .own 111149168 2 0 o.length ∧ σ 111149168 = some ⟨64, 2, o.map RP⟩ ∧ E 8 = I i) (e.length - 1) ⟨0, [], by omega, ?_, ?_⟩ ?_
  · rw [he0]; rfl
  · simp -implicitDefEqProofs (disch := omega) only [go_sem]
    simp
  rintro k E σ ⟨i, o, hk, ho, e0, e1, e6, e7, s7, e8⟩
  have hol : o.length ≤ 20000 := by
    rw [ho]
    have h1 := dif_fold_len (pcR a b (e.take (i + 1))) []
    have h2 := pcR_len a b (e.take (i + 1))
    rw [List.length_take] at h2
    simp only [List.length_nil] at h1; omega
  simp -implicitDefEqProofs (disch := omega) only [go_sem, e0, e1, e6, e7, s7, e8]
  refine branch_mk (fun hc => ?_) (fun hc => ?_)
  · have hi : i + 1 < e.length := by omega
    have hps := pcR_succ a b e i hi
    have hp2 : (pcR a b (e.take (i + 2))).foldl difS [] = difS o (gd e i, gd e (i + 1), holdB a (gd e i), holdB b (gd e i)) := by
      rw [hps, List.foldl_append, ← ho]; rfl
    have hcs : difS o (gd e i, gd e (i + 1), holdB a (gd e i), holdB b (gd e i)) = if holdB a (gd e i) = holdB b (gd e i) then o
      else if 0 < o.length ∧ (gd o (o.length - 1)).2 = gd e i then o.set (o.length - 1) ((gd o (o.length - 1)).1, gd e (i + 1))
      else o ++ [(gd e i, gd e (i + 1))] := rfl
    have c1 := holderR_ev a (gd e i) (by omega)
    have c2 := holderR_ev b (gd e i) (by omega)
    have hei : ((i : Int) + 1).toNat = i + 1 := by omega
    obtain ⟨o2, ho2⟩ : ∃ o2, (pcR a b (e.take (i + 2))).foldl difS [] = o2 := ⟨_, rfl⟩
    rw [ho2] at hp2
    rw [← hp2] at hcs
    clear hp2 hps
    generalize holdB a (gd e i) = x at *
    generalize holdB b (gd e i) = y at *
    simp -implicitDefEqProofs (disch := omega) only [go_sem, e0, e1, e6, e7, s7, e8]
    refine callC_at c1 ?_
    simp -implicitDefEqProofs (disch := omega) only [go_sem, e0, e1, e6, e7, s7, e8]
    refine callC_at c2 ?_
    simp -implicitDefEqProofs (disch := omega) only [go_sem, e0, e1, e6, e7, s7, e8]
    refine branch_mk (fun hxy => ?_) (fun hxy => ?_)
    · rw [if_pos hxy] at hcs
      simp -implicitDefEqProofs (disch := omega) only [go_sem, e0, e1, e6, e7, s7, e8]
      refine againQ_mk (e.length - (i + 2)) (by omega) ⟨i + 1, o2, by omega, ho2.symm, ?_⟩
      rw [hcs]
      simp -implicitDefEqProofs (disch := omega) only [go_sem, e0, e1, e6, e7, s7, e8]
      rfl
    rw [if_neg hxy] at hcs
    simp -implicitDefEqProofs (disch := omega) only [go_sem, e0, e1, e6, e7, s7, e8]
    refine branch_mk (fun h0 => ?_) (fun h0 => ?_)
    · have em : (max ((o.length : Int) - 1) 0).toNat = o.length - 1 := by omega
      have em2 : ((o.length : Int) - 1).toNat = o.length - 1 := by omega
      simp -implicitDefEqProofs (disch := omega) only [go_sem, e0, e1, e6, e7, s7, e8, em]
      refine branch_mk (fun h1 => ?_) (fun h1 => ?_)
      · rw [if_pos ⟨by omega, h1⟩] at hcs
        simp -implicitDefEqProofs (disch := omega) only [go_sem, e0, e1, e6, e7, s7, e8, em2, hei]
        refine againQ_mk (e.length - (i + 2)) (by omega) ⟨i + 1, o2, by omega, ho2.symm, ?_⟩
        rw [hcs]
        simp -implicitDefEqProofs (disch := omega) only [go_sem, e0, e1, e6, e7, s7, e8, and_self, set_RP, List.length_set]
        rfl
      · rw [if_neg fun h => h1 h.2] at hcs
        simp -implicitDefEqProofs (disch := omega) only [go_sem, e0, e1, e6, e7, s7, e8, hei]
        refine againQ_mk (e.length - (i + 2)) (by omega) ⟨i + 1, o2, by omega, ho2.symm, ?_⟩
        rw [hcs]
        simp -implicitDefEqProofs (disch := omega) only [go_sem, e0, e1, e6, e7, s7, e8, List.length_append, List.length_cons, List.length_nil]
        rfl
    · rw [if_neg fun h => h0 (by omega)] at hcs
      simp -implicitDefEqProofs (disch := omega) only [go_sem, e0, e1, e6, e7, s7, e8, hei]
      refine againQ_mk (e.length - (i + 2)) (by omega) ⟨i + 1, o2, by omega, ho2.symm, ?_⟩
      rw [hcs]
      simp -implicitDefEqProofs (disch := omega) only [go_sem, e0, e1, e6, e7, s7, e8, List.length_append, List.length_cons, List.length_nil]
      rfl
  · have hi : i + 1 = e.length := by omega
    rw [hi, List.take_length, ← hcR] at ho
    rw [← ho]
    simp -implicitDefEqProofs (disch := omega) only [go_sem, e0, e1, e6, e7, s7, e8, List.take_length, Tryz.results52]
theorem heldR_ev (l : List Up) (n : Int) (v : Nat) (hv : v ≤ l.length) (hl : l.length ≤ 1000) : Ev Tryz.prog 54 [UPS l, I n, I v] (I (heldV l n v)) := by
  refine ev_of Tryz.func54 rfl (by kernel_rfl) mo (Nat.le_of_ble_eq_true rfl) ?_
  simp -implicitDefEqProofs (disch := omega) only [go_sem, Tryz.ntmps54]
  refine loopC_mk (fun k E σ => heldV l n v = heldV l n k ∧ k ≤ v ∧ E 0 = UPS l ∧ E 1 = I n ∧ E 7 = I ((k : Int) - 1)) v ⟨rfl, Nat.le_refl _, ?_⟩ ?_
  · simp -implicitDefEqProofs (disch := omega) only [go_sem]
  rintro k E σ ⟨hh, hk, e0, e1, e7⟩
  simp -implicitDefEqProofs (disch := omega) only [go_sem, e0, e1, e7]
  refine branch_mk (fun hc => ?_) (fun hc => ?_)
  · obtain ⟨i, rfl⟩ : ∃ i, k = i + 1 := ⟨k - 1, by omega⟩
    have hs := heldV_succ l n (v := i) (by omega)
    have hu : (gd l i).has n ↔ (gd l i).f ≤ n ∧ n < (gd l i).t := Iff.rfl
    have hi : (((i + 1 : Nat) : Int) - 1).toNat = i := by omega
    have hi2 : (((i + 1 : Nat) : Int) - 1) = (i : Int) := by omega
    simp -implicitDefEqProofs (disch := omega) only [go_sem, e0, e1, e7, hi]
    refine branch_mk (fun h1 => ?_) (fun h1 => ?_)
    · simp -implicitDefEqProofs (disch := omega) only [go_sem, e0, e1, e7, hi]
      refine branch_mk (fun h2 => ?_) (fun h2 => ?_)
      · rw [if_pos (hu.2 ⟨h1, h2⟩)] at hs
        rw [hh, hs]
        simp -implicitDefEqProofs (disch := omega) only [go_sem, e0, e1, e7, hi, Tryz.results54]
      · rw [if_neg fun h => h2 (hu.1 h).2] at hs
        simp -implicitDefEqProofs (disch := omega) only [go_sem, e0, e1, e7]
        refine againQ_mk i (by omega) ⟨hh.trans hs, by omega, ?_⟩
        simp -implicitDefEqProofs (disch := omega) only [go_sem, e0, e1, e7, hi2]
    · rw [if_neg fun h => h1 (hu.1 h).1] at hs
      simp -implicitDefEqProofs (disch := omega) only [go_sem, e0, e1, e7]
      refine againQ_mk i (by omega) ⟨hh.trans hs, by omega, ?_⟩
      simp -implicitDefEqProofs (disch := omega) only [go_sem, e0, e1, e7, hi2]
  · obtain rfl : k = 0 := by omega
    rw [hh, heldV_zero]
    simp -implicitDefEqProofs (disch := omega) only [go_sem, e0, e1, e7, Tryz.results54]
theorem atR_ev (l : List Up) (t : Int) (hl : l.length ≤ 1000) : Ev Tryz.prog 56 [UPS l, I t] (I (atF l t : Nat)) := by
  refine ev_of Tryz.func56 rfl (by kernel_rfl) mo (Nat.le_of_ble_eq_true rfl) ?_
  simp -implicitDefEqProofs (disch := omega) only [go_sem, Tryz.ntmps56]
  refine loopC_mk (fun k E σ => ∃ i : Nat, i + k = l.length ∧ atF l t = i + atF (l.drop i) t ∧ E 0 = UPS l ∧ E 1 = I t ∧ E 5 = I i) l.length ⟨0, by omega, by simp, ?_⟩ ?_
  · simp -implicitDefEqProofs (disch := omega) only [go_sem]
    rfl
  rintro k E σ ⟨i, hk, hh, e0, e1, e5⟩
  simp -implicitDefEqProofs (disch := omega) only [go_sem, e0, e1, e5]
  refine branch_mk (fun hc => ?_) (fun hc => ?_)
  · have hi : i < l.length := by omega
    rw [drop_gd l i hi, atF] at hh
    simp -implicitDefEqProofs (disch := omega) only [go_sem, e0, e1, e5]
    refine branch_mk (fun h1 => ?_) (fun h1 => ?_)
    · rw [if_pos h1] at hh
      simp -implicitDefEqProofs (disch := omega) only [go_sem, e0, e1, e5]
      refine againQ_mk (l.length - (i + 1)) (by omega) ⟨i + 1, by omega, by omega, ?_⟩
      simp -implicitDefEqProofs (disch := omega) only [go_sem, e0, e1, e5]
      rfl
    · rw [if_neg h1] at hh
      simp -implicitDefEqProofs (disch := omega) only [go_sem, e0, e1, e5, hh, Tryz.results56]
      try simp
  · obtain rfl : i = l.length := by omega
    rw [List.drop_length, atF] at hh
    simp -implicitDefEqProofs (disch := omega) only [go_sem, e0, e1, e5, hh, Tryz.results56]
    try simp
end Go.Proofs.YthkihocapdfonaaGreatDoor
set_option maxRecDepth 100000
namespace Go.Proofs.YthkihocapdfonaaGreatDoor
open Go.Vai Go Go.Proofs
open Nat (reduceEqDiff reduceMul reduceAdd reduceDiv reduceLeDiff)
open Int (reduceToNat reduceNe reduceEq reduceLT reduceLE)
theorem mapsF_next : ∀ (l : List Up) (m : List Bk) (i : Nat), i < (mapsF m l).length → i < l.length →
    (∀ m', stepU (gd (mapsF m l) i) (gd l i) = some m' → i + 1 < (mapsF m l).length ∧ gd (mapsF m l) (i + 1) = m') ∧ (stepU (gd (mapsF m l) i) (gd l i) = none → (mapsF m l).length = i + 1)
  | [], _, _, _, h => by cases h
  | u :: l, m, i, h1, h2 => by
    rw [mapsF] at h1 ⊢
    cases hs : stepU m u with
    | none =>
      rw [hs] at h1
      simp only [List.length_cons, List.length_nil] at h1
      obtain rfl : i = 0 := by omega
      refine ⟨fun m' h => ?_, fun _ => rfl⟩
      have : stepU m u = some m' := h
      rw [hs] at this; cases this
    | some m1 =>
      rw [hs] at h1
      simp only [List.length_cons] at h1 h2 ⊢
      cases i with
      | zero =>
        refine ⟨fun m' h => ?_, fun h => ?_⟩
        · have : stepU m u = some m' := h
          rw [hs] at this; cases this
          exact ⟨by have := mapsF_pos m1 l; omega, mapsF_zero m1 l⟩
        · have : stepU m u = none := h
          rw [hs] at this; cases this
      | succ i =>
        have ih := mapsF_next l m1 i (by omega) (by omega)
        simp only [gd_cons_succ] at ih ⊢
        exact ⟨fun m' h => ⟨by have := (ih.1 m' h).1; omega, (ih.1 m' h).2⟩, fun h => by have := ih.2 h; omega⟩
@[go_sem] theorem namesL_BLs (p : Nat → Bool) (l : List (List Bk)) : AV.namesL p (l.map BL) = false := namesL_map p l BL fun _ => rfl
@[go_sem] theorem allOK_BLs (l : List (List Bk)) : allOK 1 (l.map BL) = true := allOK_map 1 l BL fun _ => ⟨rfl, rfl⟩
@[go_sem] theorem append_BLs (l : List (List Bk)) (m : List Bk) : l.map BL ++ [.sl 3 (m.map BP)] = (l ++ [m]).map BL := by simp
theorem dn_optR (o : Option (List Bk)) (e : Int) : (optR o e).dn = false := by
  show (AV.dn (BL _) || (AV.dn (I _) || false)) = false
  rw [dn_BL]; rfl
abbrev BLS (l : List (List Bk)) : AV := .sl 1 (l.map BL)
def mOK (l : List Up) : Bool := decide ((mapsF [] l).length = l.length + 1)
theorem mapsF_few {l : List Up} {i : Nat} (h : i < (mapsF [] l).length) : (gd (mapsF [] l) i).length ≤ 40 := (validB_iff.1 (mapsF_spec l i h).2.1).1
set_option maxHeartbeats 1000000 in
theorem mapsR_ev (l : List Up) (hl : l.length ≤ 1000) : Ev Tryz.prog 48 [UPS l] (.tup [BLS (if mOK l = true then mapsF [] l else []), B (mOK l)]) := by
  suffices key : ∀ R, (mOK l = true → R = .tup [.new 43 1 ((mapsF [] l).map BL), B true]) → (mOK l = false → R = .tup [.new 43 1 [], B false]) → Ev Tryz.prog 48 [UPS l] R by
    cases h : mOK l with
    | true => exact ev_sl (key _ (fun _ => rfl) fun h' => by rw [h] at h'; cases h') _
    | false => exact ev_sl (key _ (fun h' => by rw [h] at h'; cases h') fun _ => rfl) _
  intro R hR1 hR0
  refine ev_ofB [2] Tryz.func48 rfl (by kernel_rfl) mo (Nat.le_of_ble_eq_true rfl) ?_
  simp -implicitDefEqProofs (disch := omega) only [go_sem, Tryz.ntmps48]
  refine asif_C 102760592 [BL []] (by simp -implicitDefEqProofs (disch := omega) only [go_sem]; rfl) (by simp -implicitDefEqProofs (disch := omega) only [go_sem]) ?_ ?_
  · exact ⟨⟨asR_nil 3, trivial⟩, trivial⟩
  refine reg_mk Plain.mono ?_
  simp -implicitDefEqProofs (disch := omega) only [go_sem]
  refine loopC_mk (fun k E σ => ∃ i : Nat, i + k = l.length ∧ i < (mapsF [] l).length ∧ E 0 = UPS l ∧ E 4 = .own 102760592 1 0 (i + 1) ∧ σ 102760592 = some ⟨43, 1, ((mapsF [] l).take (i + 1)).map BL⟩ ∧ E 5 = I i) l.length ⟨0, by omega, mapsF_pos _ _, ?_⟩ ?_
  · simp -implicitDefEqProofs (disch := omega) only [go_sem]
    rw [show (mapsF [] l).take 1 = [[]] by cases l <;> simp [mapsF]]
    exact ⟨rfl, rfl⟩
  rintro k E σ ⟨i, hk, him, e0, e4, s4, e5⟩
  simp -implicitDefEqProofs (disch := omega) only [go_sem, e0, e4, s4, e5]
  refine branch_mk (fun hc => ?_) (fun hc => ?_)
  · have hi : i < l.length := by omega
    obtain ⟨hn1, hn2⟩ := mapsF_next l [] i him hi
    have hlen : ((mapsF [] l).take (i + 1)).length = i + 1 := by rw [List.length_take]; omega
    have hg : gd ((mapsF [] l).take (i + 1)) i = gd (mapsF [] l) i := gd_take _ _ _ (by omega)
    have hts : i + 1 < (mapsF [] l).length → (mapsF [] l).take (i + 1) ++ [gd (mapsF [] l) (i + 1)] = (mapsF [] l).take (i + 2) := fun h => (take_succ' _ _ h).symm
    have hfew := mapsF_few him
    generalize hq : (mapsF [] l).take (i + 1) = q at *
    generalize hm : gd (mapsF [] l) i = m at *
    have hst : stepU m (gd l i) = if (gd l i).c = -1 then takeF m (gd l i).f (gd l i).t else giveF m (gd l i).f (gd l i).t (gd l i).c := rfl
    simp -implicitDefEqProofs (disch := omega) only [go_sem, e0, e4, s4, e5, hlen, hg]
    refine branch_mk (fun hu => ?_) (fun hu => ?_)
    · rw [if_pos hu] at hst
      have ct := takeR_ev m (gd l i).f (gd l i).t (by omega)
      generalize takeF m (gd l i).f (gd l i).t = o at *
      simp -implicitDefEqProofs (disch := omega) only [go_sem, e0, e4, s4, e5, hlen, hg]
      refine callC_at ct ?_
      cases o with
      | none =>
        have hno := hn2 hst
        have hmo : mOK l = false := decide_eq_false (by omega)
        rw [hR0 hmo]
        simp -implicitDefEqProofs (disch := omega) only [go_sem, e0, e4, s4, e5, hlen, hg, Option.isSome, Option.getD, Tryz.results48]
      | some m' =>
        obtain ⟨hl2, hg2⟩ := hn1 m' hst
        have hts2 := hts hl2
        rw [hg2] at hts2
        simp -implicitDefEqProofs (disch := omega) only [go_sem, e0, e4, s4, e5, hlen, hg, Option.isSome, Option.getD]
        refine againQ_mk (l.length - (i + 1)) (by omega) ⟨i + 1, by omega, hl2, ?_⟩
        simp -implicitDefEqProofs (disch := omega) only [go_sem, e0, e4, s4, e5, hlen, hg]
        rw [← hts2]
        exact ⟨rfl, rfl⟩
    · rw [if_neg hu] at hst
      have ct := giveR_ev m (gd l i).f (gd l i).t (gd l i).c (by omega)
      generalize giveF m (gd l i).f (gd l i).t (gd l i).c = o at *
      simp -implicitDefEqProofs (disch := omega) only [go_sem, e0, e4, s4, e5, hlen, hg]
      refine callC_at ct ?_ (h4 := .inr (dn_optR _ _))
      cases o with
      | none =>
        have hno := hn2 hst
        have hmo : mOK l = false := decide_eq_false (by omega)
        rw [hR0 hmo]
        simp -implicitDefEqProofs (disch := omega) only [go_sem, e0, e4, s4, e5, hlen, hg, Option.isSome, Option.getD, Tryz.results48]
      | some m' =>
        obtain ⟨hl2, hg2⟩ := hn1 m' hst
        have hts2 := hts hl2
        rw [hg2] at hts2
        simp -implicitDefEqProofs (disch := omega) only [go_sem, e0, e4, s4, e5, hlen, hg, Option.isSome, Option.getD]
        refine againQ_mk (l.length - (i + 1)) (by omega) ⟨i + 1, by omega, hl2, ?_⟩
        simp -implicitDefEqProofs (disch := omega) only [go_sem, e0, e4, s4, e5, hlen, hg]
        rw [← hts2]
        exact ⟨rfl, rfl⟩
  · simp -implicitDefEqProofs (disch := omega) only [go_sem, e0, e4, s4, e5]
    have hok : mOK l = true := by
      have := mapsF_le l []
      exact decide_eq_true (by omega)
    have hlm : (mapsF [] l).length = l.length + 1 := of_decide_eq_true hok
    have hii : i = l.length := by omega
    rw [hR1 hok]
    have ht : (mapsF [] l).take (i + 1) = mapsF [] l := List.take_of_length_le (by omega)
    rw [ht] at s4
    have hlm2 : (mapsF [] l).length = i + 1 := by omega
    clear hR1 hR0 ht hok
    generalize mapsF [] l = q at *
    simp -implicitDefEqProofs (disch := omega) only [go_sem, e0, e4, s4, e5, hlm2, Tryz.results48]
    trace_state
end Go.Proofs.YthkihocapdfonaaGreatDoor
set_option maxRecDepth 100000
namespace Go.Proofs.YthkihocapdfonaaGreatDoor
open Go.Vai Go Go.Proofs
open Nat (reduceEqDiff reduceMul reduceAdd reduceDiv reduceLeDiff)
open Int (reduceToNat reduceNe reduceEq reduceLT reduceLE)
theorem dn_RL (l : List Rg) (e : Int) : (AV.tup [RL l, I e]).dn = false := by
  show (AV.dn (RL _) || (AV.dn (I _) || false)) = false
  rw [show AV.dn (RL l) = false from dnL_map l RP fun _ => rfl]; rfl
def pA (l : List Up) : Nat → Int
  | 0 => 0
  | i + 1 => (gd l i).a
set_option maxHeartbeats 1000000 in
theorem tvalidR_ev (l : List Up) (hl : l.length ≤ 1000) : Ev Tryz.prog 14 [UPS l] (B (validT l)) := by
  have bad : (validT l = true → False) → validT l = false := fun h => by
    cases e : validT l with
    | false => rfl
    | true => exact (h e).elim
  refine ev_of Tryz.func14 rfl (by kernel_rfl) mo (Nat.le_of_ble_eq_true rfl) ?_
  simp -implicitDefEqProofs (disch := omega) only [go_sem, Tryz.ntmps14]
  refine branch_mk (fun h => ?_) (fun h => ?_)
  · have e := bad fun h' => by have := (validT_iff.1 h').1; omega
    simp -implicitDefEqProofs (disch := omega) only [go_sem, e, Tryz.results14]
  simp -implicitDefEqProofs (disch := omega) only [go_sem]
  have h40 : l.length ≤ 40 := by omega
  refine loopC_mk (fun k E σ => ∃ i : Nat, i + k = l.length ∧ timesB 0 l = timesB (pA l i) (l.drop i) ∧ E 0 = UPS l ∧ E 3 = I i) l.length ⟨0, by omega, rfl, ?_⟩ ?_
  · simp -implicitDefEqProofs (disch := omega) only [go_sem]
    rfl
  rintro k E σ ⟨i, hk, htb, e0, e3⟩
  simp -implicitDefEqProofs (disch := omega) only [go_sem, e0, e3]
  refine branch_mk (fun hc => ?_) (fun hc => ?_)
  · have hi : i < l.length := by omega
    rw [drop_gd l i hi, timesB] at htb
    have hsp : validT l = true → _ := fun h => step_spec (mapV_step h hi)
    have htm : validT l = true → _ := fun h => (timesB_mono (validT_iff.1 h).2.1).1 i hi
    have htm2 : validT l = true → 0 < i → (gd l (i - 1)).a ≤ (gd l i).a := fun h h0 => (timesB_mono (validT_iff.1 h).2.1).2 (i - 1) i (by omega) hi
    have hp0 : i = 0 → pA l i = 0 := fun h => by subst h; rfl
    have hp1 : 0 < i → pA l i = (gd l (i - 1)).a := fun h => by
      obtain ⟨j, rfl⟩ : ∃ j, i = j + 1 := ⟨i - 1, by omega⟩
      rfl
    have e1 : ((i : Int) - 1).toNat = i - 1 := by omega
    simp -implicitDefEqProofs (disch := omega) only [go_sem, e0, e3]
    refine callC_at (rangeR_ev (gd l i).f (gd l i).t) ?_
    by_cases h1 : rOK (gd l i).f (gd l i).t
    case neg =>
      have e := bad fun h' => h1 (hsp h').2.2.1
      rw [decide_eq_false h1]
      simp -implicitDefEqProofs (disch := omega) only [go_sem, e0, e3, e, Tryz.results14]
    rw [decide_eq_true h1]
    simp -implicitDefEqProofs (disch := omega) only [go_sem, e0, e3]
    refine callC_at (inR_ev (gd l i).c (-1) 7) ?_
    by_cases h2 : -1 ≤ (gd l i).c ∧ (gd l i).c ≤ 7
    case neg =>
      have e := bad fun h' => by
        rcases (hsp h').2.2.2.1 with h | ⟨h3, h4⟩ <;> exact h2 ⟨by omega, by omega⟩
      rw [decide_eq_false h2]
      simp -implicitDefEqProofs (disch := omega) only [go_sem, e0, e3, e, Tryz.results14]
    rw [decide_eq_true h2]
    simp -implicitDefEqProofs (disch := omega) only [go_sem, e0, e3]
    refine callC_at (inR_ev (gd l i).a 0 10000000) ?_
    by_cases h3 : 0 ≤ (gd l i).a ∧ (gd l i).a ≤ 10000000
    case neg =>
      have e := bad fun h' => h3 ⟨(htm h').1, (htm h').2.1⟩
      rw [decide_eq_false h3]
      simp -implicitDefEqProofs (disch := omega) only [go_sem, e0, e3, e, Tryz.results14]
    rw [decide_eq_true h3]
    simp -implicitDefEqProofs (disch := omega) only [go_sem, e0, e3]
    have go : pA l i ≤ (gd l i).a → timesB 0 l = timesB (pA l (i + 1)) (l.drop (i + 1)) := fun h => by
      rw [htb, decide_eq_true ⟨h, h3.2⟩, decide_eq_true h2.1]; rfl
    clear htb
    refine branch_mk (fun h0 => ?_) (fun h0 => ?_)
    · have hq := hp1 (by omega)
      simp -implicitDefEqProofs (disch := omega) only [go_sem, e0, e3, e1]
      refine branch_mk (fun h4 => ?_) (fun h4 => ?_)
      · have e := bad fun h' => by have := htm2 h' (by omega); omega
        simp -implicitDefEqProofs (disch := omega) only [go_sem, e0, e3, e, Tryz.results14]
      · simp -implicitDefEqProofs (disch := omega) only [go_sem, e0, e3, e1]
        refine againQ_mk (l.length - (i + 1)) (by omega) ⟨i + 1, by omega, go (by omega), ?_⟩
        simp -implicitDefEqProofs (disch := omega) only [go_sem, e0, e3]
        rfl
    · have hq := hp0 (by omega)
      simp -implicitDefEqProofs (disch := omega) only [go_sem, e0, e3]
      refine againQ_mk (l.length - (i + 1)) (by omega) ⟨i + 1, by omega, go (by omega), ?_⟩
      simp -implicitDefEqProofs (disch := omega) only [go_sem, e0, e3]
      rfl
  · obtain rfl : i = l.length := by omega
    rw [List.drop_length, timesB] at htb
    have hv : validT l = mOK l := by unfold validT mOK; rw [decide_eq_true h40, htb]; rfl
    rw [hv]
    simp -implicitDefEqProofs (disch := omega) only [go_sem, e0, e3]
    refine callC_at (mapsR_ev l hl) ?_
    simp -implicitDefEqProofs (disch := omega) only [go_sem, e0, e3, Tryz.results14]
theorem mOK_of {l : List Up} (h : validT l = true) : mOK l = true := decide_eq_true (validT_iff.1 h).2.2
theorem mapR_ev (l : List Up) (v : Int) (hl : l.length ≤ 1000) : Ev Tryz.prog 18 [UPS l, I v] (.tup [BL (if inV l v then mapV l v.toNat else []), I (if inV l v then 0 else 230)]) := by
  suffices key : ∀ R, (¬ inV l v → R = .tup [.new 66 3 [], I 230]) → (inV l v → R = .tup [BL (mapV l v.toNat), I 0]) → Ev Tryz.prog 18 [UPS l, I v] R by
    by_cases h : inV l v
    · rw [if_pos h, if_pos h]; exact key _ (fun h' => (h' h).elim) fun _ => rfl
    · rw [if_neg h, if_neg h]; exact ev_sl (key _ (fun _ => rfl) fun h' => (h h').elim) _
  intro R hR0 hR1
  refine ev_of Tryz.func18 rfl (by kernel_rfl) mo (Nat.le_of_ble_eq_true rfl) ?_
  simp -implicitDefEqProofs (disch := omega) only [go_sem, Tryz.ntmps18]
  refine callC_at (tvalidR_ev l hl) ?_
  by_cases h1 : validT l = true
  case neg =>
    rw [hR0 fun h => h1 h.1]
    have h1 : validT l = false := by simpa using h1
    simp -implicitDefEqProofs (disch := omega) only [go_sem, h1, Tryz.results18]
  simp -implicitDefEqProofs (disch := omega) only [go_sem, h1]
  refine callC_at (inR_ev v 0 l.length) ?_
  by_cases h2 : 0 ≤ v ∧ v ≤ l.length
  case neg =>
    rw [hR0 fun h => h2 h.2]
    simp -implicitDefEqProofs (disch := omega) only [go_sem, h2, Tryz.results18]
  rw [hR1 ⟨h1, h2⟩]
  have cm := mapsR_ev l hl
  rw [if_pos (mOK_of h1)] at cm
  have hml := (validT_iff.1 h1).2.2
  obtain ⟨k, rfl⟩ : ∃ k : Nat, v = k := ⟨v.toNat, by omega⟩
  simp -implicitDefEqProofs (disch := omega) only [go_sem, h2, and_self]
  refine callC_at cm ?_
  have hg : gd (mapsF [] l) k = mapV l k := rfl
  generalize mapsF [] l = q at *
  simp -implicitDefEqProofs (disch := omega) only [go_sem, hml, hg, Tryz.results18]
theorem tdifferR_ev (l : List Up) (v w : Int) (hl : l.length ≤ 1000) : Ev Tryz.prog 20 [UPS l, I v, I w] (.tup [RL (if inV l v ∧ inV l w then difF (mapV l v.toNat) (mapV l w.toNat) else []), I (if inV l v ∧ inV l w then 0 else 230)]) := by
  suffices key : ∀ R, (¬ (inV l v ∧ inV l w) → R = .tup [.new 64 2 [], I 230]) → (inV l v ∧ inV l w → R = .tup [RL (difF (mapV l v.toNat) (mapV l w.toNat)), I 0]) → Ev Tryz.prog 20 [UPS l, I v, I w] R by
    by_cases h : inV l v ∧ inV l w
    · rw [if_pos h, if_pos h]; exact key _ (fun h' => (h' h).elim) fun _ => rfl
    · rw [if_neg h, if_neg h]; exact ev_sl (key _ (fun _ => rfl) fun h' => (h h').elim) _
  intro R hR0 hR1
  refine ev_of Tryz.func20 rfl (by kernel_rfl) mo (Nat.le_of_ble_eq_true rfl) ?_
  simp -implicitDefEqProofs (disch := omega) only [go_sem, Tryz.ntmps20]
  refine callC_at (tvalidR_ev l hl) ?_
  by_cases h1 : validT l = true
  case neg =>
    rw [hR0 fun h => h1 h.1.1]
    have h1 : validT l = false := by simpa using h1
    simp -implicitDefEqProofs (disch := omega) only [go_sem, h1, Tryz.results20]
  simp -implicitDefEqProofs (disch := omega) only [go_sem, h1]
  refine callC_at (inR_ev v 0 l.length) ?_
  by_cases h2 : 0 ≤ v ∧ v ≤ l.length
  case neg =>
    rw [hR0 fun h => h2 h.1.2]
    simp -implicitDefEqProofs (disch := omega) only [go_sem, h2, Tryz.results20]
  simp -implicitDefEqProofs (disch := omega) only [go_sem, h2, and_self]
  refine callC_at (inR_ev w 0 l.length) ?_
  by_cases h3 : 0 ≤ w ∧ w ≤ l.length
  case neg =>
    rw [hR0 fun h => h3 h.2.2]
    simp -implicitDefEqProofs (disch := omega) only [go_sem, h3, Tryz.results20]
  rw [hR1 ⟨⟨h1, h2⟩, h1, h3⟩]
  have cm := mapsR_ev l hl
  rw [if_pos (mOK_of h1)] at cm
  have hml := (validT_iff.1 h1).2.2
  obtain ⟨k, rfl⟩ : ∃ k : Nat, v = k := ⟨v.toNat, by omega⟩
  obtain ⟨j, rfl⟩ : ∃ j : Nat, w = j := ⟨w.toNat, by omega⟩
  have cd := differR_ev (mapV l k) (mapV l j) (mapV_spec h1 (by omega)).1 (mapV_spec h1 (by omega)).1
  simp -implicitDefEqProofs (disch := omega) only [go_sem, h3, and_self]
  refine callC_at cm ?_
  have hg : ∀ v, gd (mapsF [] l) v = mapV l v := fun _ => rfl
  generalize mapsF [] l = q at *
  simp -implicitDefEqProofs (disch := omega) only [go_sem, hml, hg]
  refine callC_at cd ?_ (h4 := .inr (dn_RL _ _))
  simp -implicitDefEqProofs (disch := omega) only [go_sem, Tryz.results20]
theorem heldR2_ev (l : List Up) (n v : Int) (hl : l.length ≤ 1000) : Ev Tryz.prog 26 [UPS l, I n, I v] (.tup [I (if inV l v ∧ 0 ≤ n ∧ n ≤ 99999999 then heldV l n v.toNat else 0), I (if inV l v ∧ 0 ≤ n ∧ n ≤ 99999999 then 0 else 230)]) := by
  refine ev_of Tryz.func26 rfl (by kernel_rfl) mo (Nat.le_of_ble_eq_true rfl) ?_
  simp -implicitDefEqProofs (disch := omega) only [go_sem, Tryz.ntmps26]
  refine callC_at (tvalidR_ev l hl) ?_
  by_cases h1 : validT l = true
  case neg =>
    rw [if_neg fun h => h1 h.1.1, if_neg fun h => h1 h.1.1]
    have h1 : validT l = false := by simpa using h1
    simp -implicitDefEqProofs (disch := omega) only [go_sem, h1, Tryz.results26]
  simp -implicitDefEqProofs (disch := omega) only [go_sem, h1]
  refine callC_at (inR_ev v 0 l.length) ?_
  by_cases h2 : 0 ≤ v ∧ v ≤ l.length
  case neg =>
    rw [if_neg fun h => h2 h.1.2, if_neg fun h => h2 h.1.2]
    simp -implicitDefEqProofs (disch := omega) only [go_sem, h2, Tryz.results26]
  simp -implicitDefEqProofs (disch := omega) only [go_sem, h2, and_self]
  refine callC_at (inR_ev n 0 99999999) ?_
  by_cases h3 : 0 ≤ n ∧ n ≤ 99999999
  case neg =>
    rw [if_neg fun h => h3 h.2, if_neg fun h => h3 h.2]
    simp -implicitDefEqProofs (disch := omega) only [go_sem, h3, Tryz.results26]
  rw [if_pos ⟨⟨h1, h2⟩, h3⟩, if_pos ⟨⟨h1, h2⟩, h3⟩]
  obtain ⟨k, rfl⟩ : ∃ k : Nat, v = k := ⟨v.toNat, by omega⟩
  rw [Int.toNat_natCast]
  simp -implicitDefEqProofs (disch := omega) only [go_sem, h3, and_self]
  refine callC_at (heldR_ev l n k (by omega) hl) ?_
  simp -implicitDefEqProofs (disch := omega) only [go_sem, Tryz.results26]
theorem versionR_ev (l : List Up) (t : Int) (hl : l.length ≤ 1000) : Ev Tryz.prog 33 [UPS l, I t] (.tup [I (if inT l t 0 then (atF l t : Nat) else 0), I (if inT l t 0 then 0 else 230)]) := by
  refine ev_of Tryz.func33 rfl (by kernel_rfl) mo (Nat.le_of_ble_eq_true rfl) ?_
  simp -implicitDefEqProofs (disch := omega) only [go_sem, Tryz.ntmps33]
  refine callC_at (tvalidR_ev l hl) ?_
  by_cases h1 : validT l = true
  case neg =>
    rw [if_neg fun h => h1 h.2.2, if_neg fun h => h1 h.2.2]
    have h1 : validT l = false := by simpa using h1
    simp -implicitDefEqProofs (disch := omega) only [go_sem, h1, Tryz.results33]
  simp -implicitDefEqProofs (disch := omega) only [go_sem, h1]
  refine callC_at (inR_ev t 0 10000000) ?_
  by_cases h2 : 0 ≤ t ∧ t ≤ 10000000
  case neg =>
    rw [if_neg fun h => h2 h.1, if_neg fun h => h2 h.1]
    simp -implicitDefEqProofs (disch := omega) only [go_sem, h2, Tryz.results33]
  have hT : inT l t 0 := ⟨h2, by decide, h1⟩
  rw [if_pos hT, if_pos hT]
  simp -implicitDefEqProofs (disch := omega) only [go_sem, h2, and_self]
  refine callC_at (atR_ev l t hl) ?_
  simp -implicitDefEqProofs (disch := omega) only [go_sem, Tryz.results33]
theorem knownR_ev (l : List Up) (t lag : Int) (hl : l.length ≤ 1000) : Ev Tryz.prog 35 [UPS l, I t, I lag] (.tup [I (if inT l t lag then (atF l (t - lag) : Nat) else 0), I (if inT l t lag then (atF l t : Nat) else 0), I (if inT l t lag then 0 else 230)]) := by
  refine ev_of Tryz.func35 rfl (by kernel_rfl) mo (Nat.le_of_ble_eq_true rfl) ?_
  simp -implicitDefEqProofs (disch := omega) only [go_sem, Tryz.ntmps35]
  refine callC_at (tvalidR_ev l hl) ?_
  by_cases h1 : validT l = true
  case neg =>
    rw [if_neg fun h => h1 h.2.2, if_neg fun h => h1 h.2.2, if_neg fun h => h1 h.2.2]
    have h1 : validT l = false := by simpa using h1
    simp -implicitDefEqProofs (disch := omega) only [go_sem, h1, Tryz.results35]
  simp -implicitDefEqProofs (disch := omega) only [go_sem, h1]
  refine callC_at (inR_ev t 0 10000000) ?_
  by_cases h2 : 0 ≤ t ∧ t ≤ 10000000
  case neg =>
    rw [if_neg fun h => h2 h.1, if_neg fun h => h2 h.1, if_neg fun h => h2 h.1]
    simp -implicitDefEqProofs (disch := omega) only [go_sem, h2, Tryz.results35]
  simp -implicitDefEqProofs (disch := omega) only [go_sem, h2, and_self]
  refine callC_at (inR_ev lag 0 100000) ?_
  by_cases h3 : 0 ≤ lag ∧ lag ≤ 100000
  case neg =>
    rw [if_neg fun h => h3 h.2.1, if_neg fun h => h3 h.2.1, if_neg fun h => h3 h.2.1]
    simp -implicitDefEqProofs (disch := omega) only [go_sem, h3, Tryz.results35]
  have hT : inT l t lag := ⟨h2, h3, h1⟩
  rw [if_pos hT, if_pos hT, if_pos hT]
  simp -implicitDefEqProofs (disch := omega) only [go_sem, h3, and_self]
  refine callC_at (atR_ev l (t - lag) hl) ?_
  simp -implicitDefEqProofs (disch := omega) only [go_sem]
  refine callC_at (atR_ev l t hl) ?_
  simp -implicitDefEqProofs (disch := omega) only [go_sem, Tryz.results35]
theorem headR23_ev (l : List Up) (v : Int) (hl : l.length ≤ 1000) : Ev Tryz.prog 21 [UPS l, I v] (.tup [Str (if inV l v then headN l v.toNat else ⟨#[]⟩), I (if inV l v then 0 else 230)]) := by
  refine ev_of Tryz.func21 rfl (by kernel_rfl) mo (Nat.le_of_ble_eq_true rfl) ?_
  simp -implicitDefEqProofs (disch := omega) only [go_sem, Tryz.ntmps21]
  refine callC_at (tvalidR_ev l hl) ?_
  by_cases h1 : validT l = true
  case neg =>
    rw [if_neg fun h => h1 h.1, if_neg fun h => h1 h.1]
    have h1 : validT l = false := by simpa using h1
    simp -implicitDefEqProofs (disch := omega) only [go_sem, h1, Tryz.results21]
  simp -implicitDefEqProofs (disch := omega) only [go_sem, h1]
  refine callC_at (inR_ev v 0 l.length) ?_
  by_cases h2 : 0 ≤ v ∧ v ≤ l.length
  case neg =>
    rw [if_neg fun h => h2 h.2, if_neg fun h => h2 h.2]
    simp -implicitDefEqProofs (disch := omega) only [go_sem, h2, Tryz.results21]
  rw [if_pos ⟨h1, h2⟩, if_pos ⟨h1, h2⟩]
  obtain ⟨k, rfl⟩ : ∃ k : Nat, v = k := ⟨v.toNat, by omega⟩
  rw [Int.toNat_natCast, headF_eq l k (by omega)]
  have hnb := validT_nb h1
  have hen := encodingsR_ev (l.take k) (by rw [List.length_take]; omega) (fun u h => hnb u (List.mem_of_mem_take h))
  have hh := headR_ev ((l.take k).map encU) (by rw [List.length_map, List.length_take]; omega) (by
    intro s hs
    obtain ⟨u, _, rfl⟩ := List.mem_map.1 hs
    have := encU_size u; omega)
  generalize ((l.take k).map encU).foldl chainF zero32 = H at *
  simp -implicitDefEqProofs (disch := omega) only [go_sem, h2, and_self]
  rw [Nat.sub_zero]
  refine callC_at hen ?_
  simp -implicitDefEqProofs (disch := omega) only [go_sem]
  refine callC_at hh ?_
  simp -implicitDefEqProofs (disch := omega) only [go_sem, Tryz.results21]
end Go.Proofs.YthkihocapdfonaaGreatDoor
set_option maxRecDepth 100000
namespace Go.Proofs.YthkihocapdfonaaGreatDoor
open Go.Vai Go Go.Proofs
open Nat (reduceEqDiff reduceMul reduceAdd reduceDiv reduceLeDiff)
open Int (reduceToNat reduceNe reduceEq reduceLT reduceLE)
theorem sinceR_ev (l : List Up) (n v : Int) (hl : l.length ≤ 1000) : Ev Tryz.prog 28 [UPS l, I n, I v] (.tup [I (if inV l v ∧ inN n then (sinF l n v.toNat : Nat) else 0), I (if inV l v ∧ inN n then 0 else 230)]) := by
  have hg := heldR2_ev l n v hl
  refine ev_of Tryz.func28 rfl (by kernel_rfl) mo (Nat.le_of_ble_eq_true rfl) ?_
  simp -implicitDefEqProofs (disch := omega) only [go_sem, Tryz.ntmps28]
  by_cases h : inV l v ∧ inN n
  case neg =>
    rw [if_neg h, if_neg h] at hg ⊢
    refine callC_at hg ?_
    simp -implicitDefEqProofs (disch := omega) only [go_sem, Tryz.results28]
  rw [if_pos h, if_pos h] at hg ⊢
  obtain ⟨⟨h1, h2⟩, hn⟩ := h
  obtain ⟨k, rfl⟩ : ∃ k : Nat, v = k := ⟨v.toNat, by omega⟩
  rw [Int.toNat_natCast] at hg ⊢
  obtain ⟨s1, s2, s3⟩ := sinF_spec l n k
  have hkl : k ≤ l.length := by omega
  generalize sinF l n k = s at *
  generalize hw : heldV l n k = w at *
  refine callC_at hg ?_
  simp -implicitDefEqProofs (disch := omega) only [go_sem]
  refine loopC_mk (fun m E σ => ∃ i : Nat, m = i ∧ s ≤ i ∧ i ≤ k ∧ E 0 = UPS l ∧ E 1 = I n ∧ E 2 = I i ∧ E 8 = I w) k ⟨k, rfl, s1, Nat.le_refl _, ?_⟩ ?_
  · simp -implicitDefEqProofs (disch := omega) only [go_sem]
  rintro m E σ ⟨i, rfl, hs, hi, e0, e1, e2, e8⟩
  simp -implicitDefEqProofs (disch := omega) only [go_sem, e0, e1, e2, e8]
  refine branch_mk (fun hc => ?_) (fun hc => ?_)
  · obtain ⟨j, rfl⟩ : ∃ j, m = j + 1 := ⟨m - 1, by omega⟩
    have hj : (((j + 1 : Nat) : Int) - 1) = (j : Int) := by omega
    have ch := heldR_ev l n j (by omega) hl
    simp -implicitDefEqProofs (disch := omega) only [go_sem, e0, e1, e2, e8, hj]
    refine callC_at ch ?_
    by_cases hsj : s ≤ j
    · have he := s2 j hsj (by omega)
      rw [he]
      simp -implicitDefEqProofs (disch := omega) only [go_sem, e0, e1, e2, e8, hj]
      refine againQ_mk j (by omega) ⟨j, rfl, hsj, by omega, ?_⟩
      simp -implicitDefEqProofs (disch := omega) only [go_sem, e0, e1, e2, e8, hj]
    · obtain rfl : s = j + 1 := by omega
      have he : ¬ heldV l n j = w := by
        rcases s3 with h | h
        · omega
        · exact h
      simp -implicitDefEqProofs (disch := omega) only [go_sem, e0, e1, e2, e8, hj]
      refine branch_r he ?_
      simp -implicitDefEqProofs (disch := omega) only [go_sem, e0, e1, e2, e8, hj, he, Tryz.results28]
  · obtain rfl : m = 0 := by omega
    obtain rfl : s = 0 := by omega
    simp -implicitDefEqProofs (disch := omega) only [go_sem, e0, e1, e2, e8, Tryz.results28]
def seenC (l : List Up) (n : Int) (a : Nat) (c : Int) : Nat → Bool
  | 0 => false
  | d + 1 => seenC l n a c d || decide (heldV l n (a + d) = c)
theorem seenC_iff (l : List Up) (n : Int) (a : Nat) (c : Int) : ∀ d, seenC l n a c d = true ↔ ∃ v, a ≤ v ∧ v < a + d ∧ heldV l n v = c
  | 0 => ⟨fun h => (by cases h), fun ⟨v, h1, h2, _⟩ => (by omega)⟩
  | d + 1 => by
    rw [seenC, Bool.or_eq_true, seenC_iff l n a c d, decide_eq_true_iff]
    constructor
    · rintro (⟨v, h1, h2, h3⟩ | h)
      · exact ⟨v, h1, by omega, h3⟩
      · exact ⟨a + d, by omega, by omega, h⟩
    · rintro ⟨v, h1, h2, h3⟩
      by_cases e : v = a + d
      · subst e; exact .inr h3
      · exact .inl ⟨v, h1, by omega, h3⟩
theorem seenC_any (l : List Up) (n : Int) {a b : Nat} (hab : a ≤ b) (c : Int) : seenC l n a c (b + 1 - a) = anyV l n a b c := by
  refine Bool.eq_iff_iff.2 ?_
  rw [seenC_iff, anyV_iff]
  constructor
  · rintro ⟨v, h1, h2, h3⟩; exact ⟨v, h1, by omega, h3⟩
  · rintro ⟨v, h1, h2, h3⟩; exact ⟨v, h1, by omega, h3⟩
theorem gd_crs {k : Nat} (h : k < 9) : gd crs k = (k : Int) - 1 := by
  rcases k with _ | _ | _ | _ | _ | _ | _ | _ | _ | k <;> first | rfl | omega
set_option maxHeartbeats 1000000 in
theorem betweenR_ev (l : List Up) (n a b : Int) (hl : l.length ≤ 1000) : Ev Tryz.prog 30 [UPS l, I n, I a, I b] (.tup [SL (if inB l n a b then betF l n a.toNat b.toNat else []), I (if inB l n a b then 0 else 230)]) := by
  suffices key : ∀ R, (¬ inB l n a b → R = .tup [.new 3 1 [], I 230]) → (inB l n a b → R = .tup [.new 3 1 ((betF l n a.toNat b.toNat).map I), I 0]) → Ev Tryz.prog 30 [UPS l, I n, I a, I b] R by
    by_cases h : inB l n a b
    · rw [if_pos h, if_pos h]; exact ev_sl (key _ (fun h' => (h' h).elim) fun _ => rfl) _
    · rw [if_neg h, if_neg h]; exact ev_sl (key _ (fun _ => rfl) fun h' => (h h').elim) _
  intro R hR0 hR1
  refine ev_of Tryz.func30 rfl (by kernel_rfl) mo (Nat.le_of_ble_eq_true rfl) ?_
  simp -implicitDefEqProofs (disch := omega) only [go_sem, Tryz.ntmps30]
  refine callC_at (tvalidR_ev l hl) ?_
  by_cases h1 : validT l = true
  case neg =>
    rw [hR0 fun h => h1 h.1.1]
    have h1 : validT l = false := by simpa using h1
    simp -implicitDefEqProofs (disch := omega) only [go_sem, h1, Tryz.results30]
  simp -implicitDefEqProofs (disch := omega) only [go_sem, h1]
  refine callC_at (inR_ev a 0 b) ?_
  by_cases h2 : 0 ≤ a ∧ a ≤ b
  case neg =>
    rw [hR0 fun h => h2 h.2.1]
    simp -implicitDefEqProofs (disch := omega) only [go_sem, h2, Tryz.results30]
  simp -implicitDefEqProofs (disch := omega) only [go_sem, h2, and_self]
  refine callC_at (inR_ev b 0 l.length) ?_
  by_cases h3 : 0 ≤ b ∧ b ≤ l.length
  case neg =>
    rw [hR0 fun h => h3 ⟨by have := h.2.1; omega, h.2.2⟩]
    simp -implicitDefEqProofs (disch := omega) only [go_sem, h3, Tryz.results30]
  simp -implicitDefEqProofs (disch := omega) only [go_sem, h3, and_self]
  refine callC_at (inR_ev n 0 99999999) ?_
  by_cases h4 : 0 ≤ n ∧ n ≤ 99999999
  case neg =>
    rw [hR0 fun h => h4 h.1.2]
    simp -implicitDefEqProofs (disch := omega) only [go_sem, h4, Tryz.results30]
  rw [hR1 ⟨⟨h1, h4⟩, h2, h3.2⟩]
  clear hR0 hR1
  obtain ⟨A, rfl⟩ : ∃ k : Nat, a = k := ⟨a.toNat, by omega⟩
  obtain ⟨N, rfl⟩ : ∃ k : Nat, b = k := ⟨b.toNat, by omega⟩
  rw [Int.toNat_natCast, Int.toNat_natCast]
  have hAB : A ≤ N := by omega
  have hNl : N ≤ l.length := by omega
  have hbe : betF l n A N = (crs.take 9).filter (anyV l n A N) := rfl
  simp -implicitDefEqProofs (disch := omega) only [go_sem, h4, and_self]
  refine loopC_mk (fun k E σ => ∃ i : Nat, i + k = 9 ∧ E 0 = UPS l ∧ E 1 = I n ∧ E 2 = I A ∧ E 3 = I N ∧ E 10 = .own 65011872 1 0 ((crs.take i).filter (anyV l n A N)).length ∧ σ 65011872 = some ⟨3, 1, ((crs.take i).filter (anyV l n A N)).map I⟩ ∧ E 11 = I ((i : Int) - 1)) 9 ⟨0, by omega, ?_⟩ ?_
  · simp -implicitDefEqProofs (disch := omega) only [go_sem]
    exact ⟨rfl, rfl, rfl⟩
  rintro k E σ ⟨i, hk, e0, e1, e2, e3, e10, s10, e11⟩
  simp -implicitDefEqProofs (disch := omega) only [go_sem, e0, e1, e2, e3, e10, s10, e11]
  refine branch_mk (fun hc => ?_) (fun hc => ?_)
  · have hi : i < 9 := by omega
    have hcr := gd_crs hi
    have hs : (crs.take (i + 1)).filter (anyV l n A N) = (crs.take i).filter (anyV l n A N) ++ (if anyV l n A N ((i : Int) - 1) = true then [(i : Int) - 1] else []) := by
      rw [take_succ' crs i hi, List.filter_append, hcr]
      congr 1
      rw [List.filter_cons]; rfl
    have hq9 : ((crs.take i).filter (anyV l n A N)).length ≤ 9 := Nat.le_trans (List.length_filter_le _ _) (by rw [List.length_take]; exact Nat.min_le_right _ _)
    obtain ⟨q', hq'⟩ : ∃ q', (crs.take (i + 1)).filter (anyV l n A N) = q' := ⟨_, rfl⟩
    rw [hq'] at hs
    have hany := seenC_any l n hAB ((i : Int) - 1)
    generalize (crs.take i).filter (anyV l n A N) = q at *
    generalize hci : (i : Int) - 1 = ci at *
    simp -implicitDefEqProofs (disch := omega) only [go_sem, e0, e1, e2, e3, e10, s10, e11]
    refine loopC_mk (fun k E σ => ∃ d : Nat, d + k = N + 1 - A ∧ E 0 = UPS l ∧ E 1 = I n ∧ E 2 = I A ∧ E 3 = I N ∧ E 10 = .own 65011872 1 0 q.length ∧ σ 65011872 = some ⟨3, 1, q.map I⟩ ∧ E 11 = I ci ∧ E 12 = B (seenC l n A ci d) ∧ E 13 = I ((A + d : Nat) : Int)) (N + 1 - A) ⟨0, by omega, ?_⟩ ?_
    · simp -implicitDefEqProofs (disch := omega) only [go_sem, e0, e1, e2, e3, e10, s10, e11]
      rfl
    clear e0 e1 e2 e3 e10 s10 e11 E σ
    rintro k2 E σ ⟨d, hk2, e0, e1, e2, e3, e10, s10, e11, e12, e13⟩
    simp -implicitDefEqProofs (disch := omega) only [go_sem, e0, e1, e2, e3, e10, s10, e11, e12, e13]
    refine branch_mk (fun hc2 => ?_) (fun hc2 => ?_)
    · have ch := heldR_ev l n (A + d) (by omega) hl
      have hsc : seenC l n A ci (d + 1) = (seenC l n A ci d || decide (heldV l n (A + d) = ci)) := rfl
      simp -implicitDefEqProofs (disch := omega) only [go_sem, e0, e1, e2, e3, e10, s10, e11, e12, e13]
      refine branch_mk (fun hsn => ?_) (fun hsn => ?_)
      · simp -implicitDefEqProofs (disch := omega) only [go_sem, e0, e1, e2, e3, e10, s10, e11, e12, e13]
        refine againQ_mk (N + 1 - A - (d + 1)) (by omega) ⟨d + 1, by omega, ?_⟩
        rw [hsc, hsn, Bool.true_or]
        simp -implicitDefEqProofs (disch := omega) only [go_sem, e0, e1, e2, e3, e10, s10, e11, e12, e13]
        rfl
      · simp -implicitDefEqProofs (disch := omega) only [go_sem, e0, e1, e2, e3, e10, s10, e11, e12, e13]
        refine callC_at ch ?_
        simp -implicitDefEqProofs (disch := omega) only [go_sem, e0, e1, e2, e3, e10, s10, e11, e12, e13]
        refine againQ_mk (N + 1 - A - (d + 1)) (by omega) ⟨d + 1, by omega, ?_⟩
        rw [hsc, Bool.eq_false_iff.2 hsn, Bool.false_or]
        simp -implicitDefEqProofs (disch := omega) only [go_sem, e0, e1, e2, e3, e10, s10, e11, e12, e13]
        exact ⟨rfl, rfl⟩
    · have hd : d = N + 1 - A := by omega
      rw [hd, hany] at e12
      simp -implicitDefEqProofs (disch := omega) only [go_sem, e0, e1, e2, e3, e10, s10, e11, e12, e13]
      refine branch_mk (fun hy => ?_) (fun hy => ?_)
      · rw [if_pos hy] at hs
        simp -implicitDefEqProofs (disch := omega) only [go_sem, e0, e1, e2, e3, e10, s10, e11, e12, e13]
        refine againQ_mk (9 - (i + 1)) (by omega) ⟨i + 1, by omega, ?_⟩
        rw [hq', hs]
        simp -implicitDefEqProofs (disch := omega) only [go_sem, e0, e1, e2, e3, e10, s10, e11, e12, e13, List.length_append, List.length_cons, List.length_nil]
        rw [show ci + 1 = ((i + 1 : Nat) : Int) - 1 by omega]
      · rw [if_neg hy, List.append_nil] at hs
        simp -implicitDefEqProofs (disch := omega) only [go_sem, e0, e1, e2, e3, e10, s10, e11, e12, e13]
        refine againQ_mk (9 - (i + 1)) (by omega) ⟨i + 1, by omega, ?_⟩
        rw [hq', hs]
        simp -implicitDefEqProofs (disch := omega) only [go_sem, e0, e1, e2, e3, e10, s10, e11, e12, e13]
        rw [show ci + 1 = ((i + 1 : Nat) : Int) - 1 by omega]
  · obtain rfl : i = 9 := by omega
    rw [← hbe] at e10 s10
    simp -implicitDefEqProofs (disch := omega) only [go_sem, e0, e1, e2, e3, e10, s10, e11, List.take_length, Tryz.results30]
theorem compactR_ev (l : List Up) (hl : l.length ≤ 1000) : Ev Tryz.prog 16 [UPS l] (.tup [UPS (if validT l = true then compT l else []), I (if validT l = true then 0 else 230)]) := by
  suffices key : ∀ R, (¬ validT l = true → R = .tup [.new 70 4 [], I 230]) → (validT l = true → R = .tup [.new 70 4 ((compT l).map UP), I 0]) → Ev Tryz.prog 16 [UPS l] R by
    by_cases h : validT l = true
    · rw [if_pos h, if_pos h]; exact ev_sl (key _ (fun h' => (h' h).elim) fun _ => rfl) _
    · rw [if_neg h, if_neg h]; exact ev_sl (key _ (fun _ => rfl) fun h' => (h h').elim) _
  intro R hR0 hR1
  refine ev_of Tryz.func16 rfl (by kernel_rfl) mo (Nat.le_of_ble_eq_true rfl) ?_
  simp -implicitDefEqProofs (disch := omega) only [go_sem, Tryz.ntmps16]
  refine callC_at (tvalidR_ev l hl) ?_
  by_cases h : validT l = true
  case neg =>
    rw [hR0 h]
    have h1 : validT l = false := by simpa using h
    simp -implicitDefEqProofs (disch := omega) only [go_sem, h1, Tryz.results16]
  rw [hR1 h]
  clear hR0 hR1
  have hne : mapV l l.length ≠ [] → 0 < l.length := fun hm => by
    rcases Nat.eq_zero_or_pos l.length with h0 | h0
    · obtain rfl : l = [] := List.eq_nil_of_length_eq_zero h0
      exact (hm rfl).elim
    · exact h0
  have hv40 := (validB_iff.1 (mapV_spec h (v := l.length) (Nat.le_refl _)).1).1
  have cm := mapsR_ev l hl
  rw [if_pos (mOK_of h)] at cm
  have hml := (validT_iff.1 h).2.2
  have hg : gd (mapsF [] l) l.length = mapV l l.length := rfl
  unfold compT
  simp -implicitDefEqProofs (disch := omega) only [go_sem, h]
  refine callC_at cm ?_
  generalize mapsF [] l = q at *
  simp -implicitDefEqProofs (disch := omega) only [go_sem, hml, hg]
  generalize mapV l l.length = m at *
  refine loopC_mk (fun n E σ => ∃ i : Nat, i + n = m.length ∧ E 0 = UPS l ∧ E 6 = BL m ∧ E 7 = .own 35651696 4 0 i ∧ σ 35651696 = some ⟨70, 4, (compF (m.take i) (gd l (l.length - 1)).a).map UP⟩ ∧ E 8 = I i) m.length ⟨0, by omega, ?_⟩ ?_
  · simp -implicitDefEqProofs (disch := omega) only [go_sem]
    simp [compF]
  rintro k E σ ⟨i, hk, e0, e6, e7, s7, e8⟩
  simp -implicitDefEqProofs (disch := omega) only [go_sem, e0, e6, e7, s7, e8]
  refine branch_mk (fun hc => ?_) (fun hc => ?_)
  · have hi : i < m.length := by omega
    have h0 := hne (fun e => by subst e; simp at hi)
    have em : ((l.length : Int) - 1).toNat = l.length - 1 := by omega
    have hs : compF (m.take (i + 1)) (gd l (l.length - 1)).a = compF (m.take i) (gd l (l.length - 1)).a ++ [⟨(gd m i).f, (gd m i).t, (gd m i).c, (gd l (l.length - 1)).a⟩] := by
      unfold compF; rw [take_succ' m i hi, List.map_append]; rfl
    have hlq : (compF (m.take i) (gd l (l.length - 1)).a).length = i := by unfold compF; rw [List.length_map, List.length_take]; omega
    obtain ⟨q', hq'⟩ : ∃ q', compF (m.take (i + 1)) (gd l (l.length - 1)).a = q' := ⟨_, rfl⟩
    rw [hq'] at hs
    generalize compF (m.take i) (gd l (l.length - 1)).a = qq at *
    simp -implicitDefEqProofs (disch := omega) only [go_sem, e0, e6, e7, s7, e8, em, hlq]
    refine againQ_mk (m.length - (i + 1)) (by omega) ⟨i + 1, by omega, ?_⟩
    rw [hq', hs]
    simp -implicitDefEqProofs (disch := omega) only [go_sem, e0, e6, e7, s7, e8, em, hlq]
    rfl
  · obtain rfl : i = m.length := by omega
    rw [List.take_length] at s7
    have hlq : (compF m (gd l (l.length - 1)).a).length = m.length := by unfold compF; rw [List.length_map]
    generalize compF m (gd l (l.length - 1)).a = qq at *
    simp -implicitDefEqProofs (disch := omega) only [go_sem, e0, e6, e7, s7, e8, hlq, Tryz.results16]
end Go.Proofs.YthkihocapdfonaaGreatDoor

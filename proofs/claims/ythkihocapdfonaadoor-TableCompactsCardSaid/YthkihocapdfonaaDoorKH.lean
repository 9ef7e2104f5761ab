/- Heads; the document's texts; the example; the frame -/
import Derived.Test.YthkihocapdfonaaDoorKG
import Derived.Test.YthkihocapdfonaaDoorRows
import Derived.Test.YthkihocapdfonaaDoorCards
import Derived.Test.YthkihocapdfonaaDoorTie
import Derived.ProofKit
import Derived.LaidMore
import Derived.OpenShut
import Derived.Stop.Joined
import Derived.Handed
import Derived.Lay
set_option linter.unusedVariables false
set_option linter.unusedSimpArgs false
set_option maxRecDepth 100000
namespace Go.Proofs.YthkihocapdfonaaDoor
open Go.Vai Go Go.Proofs
open Nat (reduceEqDiff reduceMul reduceAdd reduceDiv reduceLeDiff)
open Int (reduceToNat reduceNe reduceEq reduceLT reduceLE)
theorem catF_two (a b : ByteArray) : catF [a, b] = a ++ b := by
  unfold catF
  rw [List.map_cons, List.map_cons, List.map_nil, Lib.join_cons]
  simp only [Lib.joinTail, List.map_cons, List.map_nil, List.flatten_cons, List.flatten_nil, List.append_nil]
  apply ByteArray.ext
  simp [ByteArray.data_append]
theorem chain_ev (a b : ByteArray) (hl : a.size + b.size ≤ 99999999) : Ev Tryd.prog 33 [Str a, Str b] (Str (chainF a b)) := by
  refine ev_of Tryd.func33 rfl (by kernel_rfl) mo (Nat.le_of_ble_eq_true rfl) ?_
  simp -implicitDefEqProofs (disch := omega) only [go_sem, ↓reduceIte, reduceEqDiff, reduceMul, reduceAdd, reduceDiv, Nat.reduceBEq, reduceLeDiff, reduceToNat, reduceNe, reduceEq, reduceLT, reduceLE, Int.reduceBEq, Int.reduceBNe, Tryd.ntmps33]
  refine callC_at (marked_ev _) ?_
  simp -implicitDefEqProofs (disch := omega) only [go_sem, ↓reduceIte, reduceEqDiff, reduceMul, reduceAdd, reduceDiv, Nat.reduceBEq, reduceLeDiff, reduceToNat, reduceNe, reduceEq, reduceLT, reduceLE, Int.reduceBEq, Int.reduceBNe]
  refine callC_at (marked1_ev ⟨#[2]⟩ [a, b] ?_ (by simp)) ?_
  · rw [catF_two, ByteArray.size_append]; show 1 + _ ≤ _; omega
  simp -implicitDefEqProofs (disch := omega) only [go_sem, ↓reduceIte, reduceEqDiff, reduceMul, reduceAdd, reduceDiv, Nat.reduceBEq, reduceLeDiff, reduceToNat, reduceNe, reduceEq, reduceLT, reduceLE, Int.reduceBEq, Int.reduceBNe, Tryd.results33, catF_two, chainF]
theorem numS_append (a : List Int) (n : Int) : numS (a ++ [n]) = numS a ++ viS n := by
  refine bI_inj ?_
  rw [numS_bI, bI_append, numS_bI]; simp [numBC]
theorem put_ev (l : List Int) (hl : l.length ≤ 1000) (hb : ∀ n ∈ l, -4611686018427387903 ≤ n ∧ n ≤ 4611686018427387903) : Ev Tryd.prog 55 [SL l] (Str (numS l)) := by
  refine ev_of Tryd.func55 rfl (by kernel_rfl) mo (Nat.le_of_ble_eq_true rfl) ?_
  simp -implicitDefEqProofs (disch := omega) only [go_sem, ↓reduceIte, reduceEqDiff, reduceMul, reduceAdd, reduceDiv, Nat.reduceBEq, reduceLeDiff, reduceToNat, reduceNe, reduceEq, reduceLT, reduceLE, Int.reduceBEq, Int.reduceBNe, Tryd.ntmps55]
  refine loopC_mk (fun n E σ => ∃ i : Nat, i + n = l.length ∧ E 3 = Str (numS (l.take i)) ∧ E 8 = SL l ∧ E 9 = I l.length ∧ E 10 = I i) l.length ⟨0, by omega, ?_⟩ ?_
  · simp -implicitDefEqProofs (disch := omega) only [go_sem, ↓reduceIte, reduceEqDiff, reduceMul, reduceAdd, reduceDiv, Nat.reduceBEq, reduceLeDiff, reduceToNat, reduceNe, reduceEq, reduceLT, reduceLE, Int.reduceBEq, Int.reduceBNe]
    exact ⟨rfl, rfl⟩
  rintro n E σ ⟨i, hn, e3, e8, e9, e10⟩
  simp -implicitDefEqProofs (disch := omega) only [go_sem, ↓reduceIte, reduceEqDiff, reduceMul, reduceAdd, reduceDiv, Nat.reduceBEq, reduceLeDiff, reduceToNat, reduceNe, reduceEq, reduceLT, reduceLE, Int.reduceBEq, Int.reduceBNe, e3, e8, e9, e10]
  refine branch_mk (fun hc => ?_) (fun hc => ?_)
  · have hb' := hb _ (gd_mem l i (by omega))
    have hs := numS_append (l.take i) (gd l i)
    rw [← take_succ' l i (by omega)] at hs
    have hsz := numS_size (l.take i)
    have hsz2 := numS_size (l.take (i + 1))
    rw [List.length_take] at hsz hsz2
    generalize numS (l.take i) = A at *
    rw [hs, ByteArray.size_append] at hsz2
    simp -implicitDefEqProofs (disch := omega) only [go_sem, ↓reduceIte, reduceEqDiff, reduceMul, reduceAdd, reduceDiv, Nat.reduceBEq, reduceLeDiff, reduceToNat, reduceNe, reduceEq, reduceLT, reduceLE, Int.reduceBEq, Int.reduceBNe, e3, e8, e9, e10]
    refine callC_at (putInt_ev _ hb'.1 hb'.2) ?_
    simp -implicitDefEqProofs (disch := omega) only [go_sem, ↓reduceIte, reduceEqDiff, reduceMul, reduceAdd, reduceDiv, Nat.reduceBEq, reduceLeDiff, reduceToNat, reduceNe, reduceEq, reduceLT, reduceLE, Int.reduceBEq, Int.reduceBNe, e3, e8, e9, e10]
    refine againQ_mk (l.length - (i + 1)) (by omega) ⟨i + 1, by omega, ?_⟩
    simp -implicitDefEqProofs (disch := omega) only [go_sem, ↓reduceIte, reduceEqDiff, reduceMul, reduceAdd, reduceDiv, Nat.reduceBEq, reduceLeDiff, reduceToNat, reduceNe, reduceEq, reduceLT, reduceLE, Int.reduceBEq, Int.reduceBNe, e3, e8, e9, e10, hs]
    rfl
  · obtain rfl : i = l.length := by omega
    rw [List.take_length] at e3
    simp -implicitDefEqProofs (disch := omega) only [go_sem, ↓reduceIte, reduceEqDiff, reduceMul, reduceAdd, reduceDiv, Nat.reduceBEq, reduceLeDiff, reduceToNat, reduceNe, reduceEq, reduceLT, reduceLE, Int.reduceBEq, Int.reduceBNe, e3, Tryd.results55]
theorem numS_four (u : Up) : numS [u.f, u.t, u.c, u.a] = encU u := rfl
theorem z32 : strOfNums (List.replicate 32 0) = zero32 := by decide
theorem head_ev (l : List Up) (v : Int) (hl : l.length ≤ 1000) : Ev Tryd.prog 29 [UPS l, I v] (.tup [Str (if inV l v then headN l v.toNat else ⟨#[]⟩), I (if inV l v then 0 else 230)]) := by
  refine ev_of Tryd.func29 rfl (by kernel_rfl) mo (Nat.le_of_ble_eq_true rfl) ?_
  simp -implicitDefEqProofs (disch := omega) only [go_sem, ↓reduceIte, reduceEqDiff, reduceMul, reduceAdd, reduceDiv, Nat.reduceBEq, reduceLeDiff, reduceToNat, reduceNe, reduceEq, reduceLT, reduceLE, Int.reduceBEq, Int.reduceBNe, Tryd.ntmps29]
  refine callC_at (tvalid_ev l hl) ?_
  by_cases h1 : validT l = true
  case neg =>
    rw [if_neg (fun h => h1 h.1), if_neg (fun h => h1 h.1)]
    have h1 : validT l = false := by simpa using h1
    simp -implicitDefEqProofs (disch := omega) only [go_sem, ↓reduceIte, reduceEqDiff, reduceMul, reduceAdd, reduceDiv, Nat.reduceBEq, reduceLeDiff, reduceToNat, reduceNe, reduceEq, reduceLT, reduceLE, Int.reduceBEq, Int.reduceBNe, h1, Tryd.results29]
  simp -implicitDefEqProofs (disch := omega) only [go_sem, ↓reduceIte, reduceEqDiff, reduceMul, reduceAdd, reduceDiv, Nat.reduceBEq, reduceLeDiff, reduceToNat, reduceNe, reduceEq, reduceLT, reduceLE, Int.reduceBEq, Int.reduceBNe, h1]
  refine callC_at (isIn_ev v 0 l.length) ?_
  by_cases h2 : 0 ≤ v ∧ v ≤ l.length
  case neg =>
    rw [if_neg (fun h => h2 h.2), if_neg (fun h => h2 h.2)]
    simp -implicitDefEqProofs (disch := omega) only [go_sem, ↓reduceIte, reduceEqDiff, reduceMul, reduceAdd, reduceDiv, Nat.reduceBEq, reduceLeDiff, reduceToNat, reduceNe, reduceEq, reduceLT, reduceLE, Int.reduceBEq, Int.reduceBNe, h2, Tryd.results29]
  rw [if_pos ⟨h1, h2⟩, if_pos ⟨h1, h2⟩]
  obtain ⟨k, rfl⟩ : ∃ k : Nat, v = k := ⟨v.toNat, by omega⟩
  rw [Int.toNat_natCast]
  have hk : k ≤ l.length := by omega
  simp -implicitDefEqProofs (disch := omega) only [go_sem, ↓reduceIte, reduceEqDiff, reduceMul, reduceAdd, reduceDiv, Nat.reduceBEq, reduceLeDiff, reduceToNat, reduceNe, reduceEq, reduceLT, reduceLE, Int.reduceBEq, Int.reduceBNe, h2, and_self]
  refine toStr_mk (List.replicate 32 0) (by simp -implicitDefEqProofs (disch := omega) only [go_sem, ↓reduceIte, reduceEqDiff, reduceMul, reduceAdd, reduceDiv, Nat.reduceBEq, reduceLeDiff, reduceToNat, reduceNe, reduceEq, reduceLT, reduceLE, Int.reduceBEq, Int.reduceBNe]; rfl) (by intro b; simp -implicitDefEqProofs (disch := omega) only [go_sem, ↓reduceIte, reduceEqDiff, reduceMul, reduceAdd, reduceDiv, Nat.reduceBEq, reduceLeDiff, reduceToNat, reduceNe, reduceEq, reduceLT, reduceLE, Int.reduceBEq, Int.reduceBNe]; intro e; cases e) (e := 5) rfl rfl rfl ?_
  rw [z32]
  simp -implicitDefEqProofs (disch := omega) only [go_sem, ↓reduceIte, reduceEqDiff, reduceMul, reduceAdd, reduceDiv, Nat.reduceBEq, reduceLeDiff, reduceToNat, reduceNe, reduceEq, reduceLT, reduceLE, Int.reduceBEq, Int.reduceBNe]
  have hlt : (l.take k).length = k := by rw [List.length_take]; omega
  refine loopC_mk (fun n E σ => ∃ i : Nat, i + n = k ∧ E 6 = Str (headN l i) ∧ E 23 = UPS (l.take k) ∧ E 24 = I k ∧ E 25 = I i) k ⟨0, by omega, ?_⟩ ?_
  · simp -implicitDefEqProofs (disch := omega) only [go_sem, ↓reduceIte, reduceEqDiff, reduceMul, reduceAdd, reduceDiv, Nat.reduceBEq, reduceLeDiff, reduceToNat, reduceNe, reduceEq, reduceLT, reduceLE, Int.reduceBEq, Int.reduceBNe]
    rw [Nat.sub_zero, hlt]
    exact ⟨rfl, rfl, rfl, rfl⟩
  rintro n E σ ⟨i, hn, e6, e23, e24, e25⟩
  simp -implicitDefEqProofs (disch := omega) only [go_sem, ↓reduceIte, reduceEqDiff, reduceMul, reduceAdd, reduceDiv, Nat.reduceBEq, reduceLeDiff, reduceToNat, reduceNe, reduceEq, reduceLT, reduceLE, Int.reduceBEq, Int.reduceBNe, e6, e23, e24, e25]
  refine branch_mk (fun hc => ?_) (fun hc => ?_)
  · have hgt : gd (l.take k) i = gd l i := gd_take l k i (by omega)
    have hnb := validT_nb h1 _ (gd_mem l i (by omega))
    have hsz := headN_size l i
    have hes := encU_size (gd l i)
    have hhd : headN l (i + 1) = chainF (headN l i) (encU (gd l i)) := rfl
    obtain ⟨H, hH⟩ : ∃ H, headN l i = H := ⟨_, rfl⟩
    rw [hH] at e6 hsz hhd
    have hput := put_ev [(gd l i).f, (gd l i).t, (gd l i).c, (gd l i).a] (by simp) (by
      intro n hn'
      simp only [List.mem_cons, List.not_mem_nil, or_false] at hn'
      rcases hn' with rfl | rfl | rfl | rfl
      · exact hnb.1
      · exact hnb.2.1
      · exact hnb.2.2.1
      · exact hnb.2.2.2)
    rw [numS_four] at hput
    simp -implicitDefEqProofs (disch := omega) only [go_sem, ↓reduceIte, reduceEqDiff, reduceMul, reduceAdd, reduceDiv, Nat.reduceBEq, reduceLeDiff, reduceToNat, reduceNe, reduceEq, reduceLT, reduceLE, Int.reduceBEq, Int.reduceBNe, e6, e23, e24, e25, hgt, hlt]
    refine callC_at hput ?_
    simp -implicitDefEqProofs (disch := omega) only [go_sem, ↓reduceIte, reduceEqDiff, reduceMul, reduceAdd, reduceDiv, Nat.reduceBEq, reduceLeDiff, reduceToNat, reduceNe, reduceEq, reduceLT, reduceLE, Int.reduceBEq, Int.reduceBNe, e6, e23, e24, e25, hgt, hlt]
    refine callC_at (chain_ev H (encU (gd l i)) (by omega)) ?_
    simp -implicitDefEqProofs (disch := omega) only [go_sem, ↓reduceIte, reduceEqDiff, reduceMul, reduceAdd, reduceDiv, Nat.reduceBEq, reduceLeDiff, reduceToNat, reduceNe, reduceEq, reduceLT, reduceLE, Int.reduceBEq, Int.reduceBNe, e6, e23, e24, e25, hgt, hlt]
    refine againQ_mk (k - (i + 1)) (by omega) ⟨i + 1, by omega, ?_⟩
    simp -implicitDefEqProofs (disch := omega) only [go_sem, ↓reduceIte, reduceEqDiff, reduceMul, reduceAdd, reduceDiv, Nat.reduceBEq, reduceLeDiff, reduceToNat, reduceNe, reduceEq, reduceLT, reduceLE, Int.reduceBEq, Int.reduceBNe, e6, e23, e24, e25, hgt, hlt, hhd]
    rfl
  · obtain rfl : i = k := by omega
    simp -implicitDefEqProofs (disch := omega) only [go_sem, ↓reduceIte, reduceEqDiff, reduceMul, reduceAdd, reduceDiv, Nat.reduceBEq, reduceLeDiff, reduceToNat, reduceNe, reduceEq, reduceLT, reduceLE, Int.reduceBEq, Int.reduceBNe, e6, Tryd.results29]
end Go.Proofs.YthkihocapdfonaaDoor
set_option maxRecDepth 100000
namespace Go.Proofs.YthkihocapdfonaaDoor
open Go.Vai Go Go.Proofs
open Nat (reduceEqDiff reduceMul reduceAdd reduceDiv reduceLeDiff)
open Int (reduceToNat reduceNe reduceEq reduceLT reduceLE)
theorem take_ext {T : Type} [Inhabited T] [DecidableEq T] {a b : List T} (hl : a.length = b.length) {i : Nat} (hi : i < a.length) (h : a.take i = b.take i) (he : gd a i = gd b i) : a.take (i + 1) = b.take (i + 1) := by
  rw [take_succ' a i hi, take_succ' b i (by omega), h, he]
theorem take_ne {T : Type} [Inhabited T] {a b : List T} {i : Nat} (he : gd a i ≠ gd b i) : a ≠ b := fun h => he (by rw [h])
deriving instance DecidableEq for Bk
deriving instance DecidableEq for Up
theorem sameB_ev (a b : List Bk) (la : a.length ≤ 1000000000) (lb : b.length ≤ 1000000000) : Ev Tryd.prog 19 [BL a, BL b] (B (decide (a = b))) := by
  refine ev_of Tryd.func19 rfl (by kernel_rfl) mo (Nat.le_of_ble_eq_true rfl) ?_
  simp -implicitDefEqProofs (disch := omega) only [go_sem, ↓reduceIte, reduceEqDiff, reduceMul, reduceAdd, reduceDiv, Nat.reduceBEq, reduceLeDiff, reduceToNat, reduceNe, reduceEq, reduceLT, reduceLE, Int.reduceBEq, Int.reduceBNe, Tryd.ntmps19]
  refine branch_mk (fun h0 => ?_) (fun h0 => ?_)
  · rw [decide_eq_false (fun e => by rw [e] at h0; exact h0 rfl)]
    simp -implicitDefEqProofs (disch := omega) only [go_sem, ↓reduceIte, reduceEqDiff, reduceMul, reduceAdd, reduceDiv, Nat.reduceBEq, reduceLeDiff, reduceToNat, reduceNe, reduceEq, reduceLT, reduceLE, Int.reduceBEq, Int.reduceBNe, Tryd.results19]
  have hl : a.length = b.length := by omega
  simp -implicitDefEqProofs (disch := omega) only [go_sem, ↓reduceIte, reduceEqDiff, reduceMul, reduceAdd, reduceDiv, Nat.reduceBEq, reduceLeDiff, reduceToNat, reduceNe, reduceEq, reduceLT, reduceLE, Int.reduceBEq, Int.reduceBNe]
  refine loopC_mk (fun n E σ => ∃ i : Nat, i + n = a.length ∧ a.take i = b.take i ∧ E 0 = BL a ∧ E 1 = BL b ∧ E 5 = I i) a.length ⟨0, by omega, rfl, ?_⟩ ?_
  · simp -implicitDefEqProofs (disch := omega) only [go_sem, ↓reduceIte, reduceEqDiff, reduceMul, reduceAdd, reduceDiv, Nat.reduceBEq, reduceLeDiff, reduceToNat, reduceNe, reduceEq, reduceLT, reduceLE, Int.reduceBEq, Int.reduceBNe]
    rfl
  rintro n E σ ⟨i, hn, ht, e0, e1, e5⟩
  simp -implicitDefEqProofs (disch := omega) only [go_sem, ↓reduceIte, reduceEqDiff, reduceMul, reduceAdd, reduceDiv, Nat.reduceBEq, reduceLeDiff, reduceToNat, reduceNe, reduceEq, reduceLT, reduceLE, Int.reduceBEq, Int.reduceBNe, e0, e1, e5]
  refine branch_mk (fun hc => ?_) (fun hc => ?_)
  · simp -implicitDefEqProofs (disch := omega) only [go_sem, ↓reduceIte, reduceEqDiff, reduceMul, reduceAdd, reduceDiv, Nat.reduceBEq, reduceLeDiff, reduceToNat, reduceNe, reduceEq, reduceLT, reduceLE, Int.reduceBEq, Int.reduceBNe, e0, e1, e5]
    have hi : i < b.length := by omega
    refine branch_mk (fun hb => ?_) (fun hb => ?_)
    · have hne : gd a i ≠ gd b i := fun e => by rw [e] at hb; simp at hb
      rw [decide_eq_false (take_ne hne)]
      simp -implicitDefEqProofs (disch := omega) only [go_sem, ↓reduceIte, reduceEqDiff, reduceMul, reduceAdd, reduceDiv, Nat.reduceBEq, reduceLeDiff, reduceToNat, reduceNe, reduceEq, reduceLT, reduceLE, Int.reduceBEq, Int.reduceBNe, Tryd.results19]
    · have he : gd a i = gd b i := by
        generalize gd a i = x at *
        generalize gd b i = y at *
        cases x; cases y; simp_all
      simp -implicitDefEqProofs (disch := omega) only [go_sem, ↓reduceIte, reduceEqDiff, reduceMul, reduceAdd, reduceDiv, Nat.reduceBEq, reduceLeDiff, reduceToNat, reduceNe, reduceEq, reduceLT, reduceLE, Int.reduceBEq, Int.reduceBNe, e0, e1, e5]
      refine againQ_mk (a.length - (i + 1)) (by omega) ⟨i + 1, by omega, take_ext hl (by omega) ht he, ?_⟩
      simp -implicitDefEqProofs (disch := omega) only [go_sem, ↓reduceIte, reduceEqDiff, reduceMul, reduceAdd, reduceDiv, Nat.reduceBEq, reduceLeDiff, reduceToNat, reduceNe, reduceEq, reduceLT, reduceLE, Int.reduceBEq, Int.reduceBNe, e0, e1, e5]
      rfl
  · obtain rfl : i = a.length := by omega
    rw [List.take_length, List.take_of_length_le (by omega)] at ht
    rw [decide_eq_true ht]
    simp -implicitDefEqProofs (disch := omega) only [go_sem, ↓reduceIte, reduceEqDiff, reduceMul, reduceAdd, reduceDiv, Nat.reduceBEq, reduceLeDiff, reduceToNat, reduceNe, reduceEq, reduceLT, reduceLE, Int.reduceBEq, Int.reduceBNe, Tryd.results19]
theorem sameR_ev (a b : List Rg) (la : a.length ≤ 1000000000) (lb : b.length ≤ 1000000000) : Ev Tryd.prog 28 [RL a, RL b] (B (decide (a = b))) := by
  refine ev_of Tryd.func28 rfl (by kernel_rfl) mo (Nat.le_of_ble_eq_true rfl) ?_
  simp -implicitDefEqProofs (disch := omega) only [go_sem, ↓reduceIte, reduceEqDiff, reduceMul, reduceAdd, reduceDiv, Nat.reduceBEq, reduceLeDiff, reduceToNat, reduceNe, reduceEq, reduceLT, reduceLE, Int.reduceBEq, Int.reduceBNe, Tryd.ntmps28]
  refine branch_mk (fun h0 => ?_) (fun h0 => ?_)
  · rw [decide_eq_false (fun e => by rw [e] at h0; exact h0 rfl)]
    simp -implicitDefEqProofs (disch := omega) only [go_sem, ↓reduceIte, reduceEqDiff, reduceMul, reduceAdd, reduceDiv, Nat.reduceBEq, reduceLeDiff, reduceToNat, reduceNe, reduceEq, reduceLT, reduceLE, Int.reduceBEq, Int.reduceBNe, Tryd.results28]
  have hl : a.length = b.length := by omega
  simp -implicitDefEqProofs (disch := omega) only [go_sem, ↓reduceIte, reduceEqDiff, reduceMul, reduceAdd, reduceDiv, Nat.reduceBEq, reduceLeDiff, reduceToNat, reduceNe, reduceEq, reduceLT, reduceLE, Int.reduceBEq, Int.reduceBNe]
  refine loopC_mk (fun n E σ => ∃ i : Nat, i + n = a.length ∧ a.take i = b.take i ∧ E 0 = RL a ∧ E 1 = RL b ∧ E 5 = I i) a.length ⟨0, by omega, rfl, ?_⟩ ?_
  · simp -implicitDefEqProofs (disch := omega) only [go_sem, ↓reduceIte, reduceEqDiff, reduceMul, reduceAdd, reduceDiv, Nat.reduceBEq, reduceLeDiff, reduceToNat, reduceNe, reduceEq, reduceLT, reduceLE, Int.reduceBEq, Int.reduceBNe]
    rfl
  rintro n E σ ⟨i, hn, ht, e0, e1, e5⟩
  simp -implicitDefEqProofs (disch := omega) only [go_sem, ↓reduceIte, reduceEqDiff, reduceMul, reduceAdd, reduceDiv, Nat.reduceBEq, reduceLeDiff, reduceToNat, reduceNe, reduceEq, reduceLT, reduceLE, Int.reduceBEq, Int.reduceBNe, e0, e1, e5]
  refine branch_mk (fun hc => ?_) (fun hc => ?_)
  · simp -implicitDefEqProofs (disch := omega) only [go_sem, ↓reduceIte, reduceEqDiff, reduceMul, reduceAdd, reduceDiv, Nat.reduceBEq, reduceLeDiff, reduceToNat, reduceNe, reduceEq, reduceLT, reduceLE, Int.reduceBEq, Int.reduceBNe, e0, e1, e5]
    have hi : i < b.length := by omega
    refine branch_mk (fun hb => ?_) (fun hb => ?_)
    · have hne : gd a i ≠ gd b i := fun e => by rw [e] at hb; simp at hb
      rw [decide_eq_false (take_ne hne)]
      simp -implicitDefEqProofs (disch := omega) only [go_sem, ↓reduceIte, reduceEqDiff, reduceMul, reduceAdd, reduceDiv, Nat.reduceBEq, reduceLeDiff, reduceToNat, reduceNe, reduceEq, reduceLT, reduceLE, Int.reduceBEq, Int.reduceBNe, Tryd.results28]
    · have he : gd a i = gd b i := by
        generalize gd a i = x at *
        generalize gd b i = y at *
        cases x; cases y; simp_all
      simp -implicitDefEqProofs (disch := omega) only [go_sem, ↓reduceIte, reduceEqDiff, reduceMul, reduceAdd, reduceDiv, Nat.reduceBEq, reduceLeDiff, reduceToNat, reduceNe, reduceEq, reduceLT, reduceLE, Int.reduceBEq, Int.reduceBNe, e0, e1, e5]
      refine againQ_mk (a.length - (i + 1)) (by omega) ⟨i + 1, by omega, take_ext hl (by omega) ht he, ?_⟩
      simp -implicitDefEqProofs (disch := omega) only [go_sem, ↓reduceIte, reduceEqDiff, reduceMul, reduceAdd, reduceDiv, Nat.reduceBEq, reduceLeDiff, reduceToNat, reduceNe, reduceEq, reduceLT, reduceLE, Int.reduceBEq, Int.reduceBNe, e0, e1, e5]
      rfl
  · obtain rfl : i = a.length := by omega
    rw [List.take_length, List.take_of_length_le (by omega)] at ht
    rw [decide_eq_true ht]
    simp -implicitDefEqProofs (disch := omega) only [go_sem, ↓reduceIte, reduceEqDiff, reduceMul, reduceAdd, reduceDiv, Nat.reduceBEq, reduceLeDiff, reduceToNat, reduceNe, reduceEq, reduceLT, reduceLE, Int.reduceBEq, Int.reduceBNe, Tryd.results28]
theorem sameU_ev (a b : List Up) (la : a.length ≤ 1000000000) (lb : b.length ≤ 1000000000) : Ev Tryd.prog 31 [UPS a, UPS b] (B (decide (a = b))) := by
  refine ev_of Tryd.func31 rfl (by kernel_rfl) mo (Nat.le_of_ble_eq_true rfl) ?_
  simp -implicitDefEqProofs (disch := omega) only [go_sem, ↓reduceIte, reduceEqDiff, reduceMul, reduceAdd, reduceDiv, Nat.reduceBEq, reduceLeDiff, reduceToNat, reduceNe, reduceEq, reduceLT, reduceLE, Int.reduceBEq, Int.reduceBNe, Tryd.ntmps31]
  refine branch_mk (fun h0 => ?_) (fun h0 => ?_)
  · rw [decide_eq_false (fun e => by rw [e] at h0; exact h0 rfl)]
    simp -implicitDefEqProofs (disch := omega) only [go_sem, ↓reduceIte, reduceEqDiff, reduceMul, reduceAdd, reduceDiv, Nat.reduceBEq, reduceLeDiff, reduceToNat, reduceNe, reduceEq, reduceLT, reduceLE, Int.reduceBEq, Int.reduceBNe, Tryd.results31]
  have hl : a.length = b.length := by omega
  simp -implicitDefEqProofs (disch := omega) only [go_sem, ↓reduceIte, reduceEqDiff, reduceMul, reduceAdd, reduceDiv, Nat.reduceBEq, reduceLeDiff, reduceToNat, reduceNe, reduceEq, reduceLT, reduceLE, Int.reduceBEq, Int.reduceBNe]
  refine loopC_mk (fun n E σ => ∃ i : Nat, i + n = a.length ∧ a.take i = b.take i ∧ E 0 = UPS a ∧ E 1 = UPS b ∧ E 5 = I i) a.length ⟨0, by omega, rfl, ?_⟩ ?_
  · simp -implicitDefEqProofs (disch := omega) only [go_sem, ↓reduceIte, reduceEqDiff, reduceMul, reduceAdd, reduceDiv, Nat.reduceBEq, reduceLeDiff, reduceToNat, reduceNe, reduceEq, reduceLT, reduceLE, Int.reduceBEq, Int.reduceBNe]
    rfl
  rintro n E σ ⟨i, hn, ht, e0, e1, e5⟩
  simp -implicitDefEqProofs (disch := omega) only [go_sem, ↓reduceIte, reduceEqDiff, reduceMul, reduceAdd, reduceDiv, Nat.reduceBEq, reduceLeDiff, reduceToNat, reduceNe, reduceEq, reduceLT, reduceLE, Int.reduceBEq, Int.reduceBNe, e0, e1, e5]
  refine branch_mk (fun hc => ?_) (fun hc => ?_)
  · simp -implicitDefEqProofs (disch := omega) only [go_sem, ↓reduceIte, reduceEqDiff, reduceMul, reduceAdd, reduceDiv, Nat.reduceBEq, reduceLeDiff, reduceToNat, reduceNe, reduceEq, reduceLT, reduceLE, Int.reduceBEq, Int.reduceBNe, e0, e1, e5]
    have hi : i < b.length := by omega
    refine branch_mk (fun hb => ?_) (fun hb => ?_)
    · have hne : gd a i ≠ gd b i := fun e => by rw [e] at hb; simp at hb
      rw [decide_eq_false (take_ne hne)]
      simp -implicitDefEqProofs (disch := omega) only [go_sem, ↓reduceIte, reduceEqDiff, reduceMul, reduceAdd, reduceDiv, Nat.reduceBEq, reduceLeDiff, reduceToNat, reduceNe, reduceEq, reduceLT, reduceLE, Int.reduceBEq, Int.reduceBNe, Tryd.results31]
    · have he : gd a i = gd b i := by
        generalize gd a i = x at *
        generalize gd b i = y at *
        cases x; cases y; simp_all
      simp -implicitDefEqProofs (disch := omega) only [go_sem, ↓reduceIte, reduceEqDiff, reduceMul, reduceAdd, reduceDiv, Nat.reduceBEq, reduceLeDiff, reduceToNat, reduceNe, reduceEq, reduceLT, reduceLE, Int.reduceBEq, Int.reduceBNe, e0, e1, e5]
      refine againQ_mk (a.length - (i + 1)) (by omega) ⟨i + 1, by omega, take_ext hl (by omega) ht he, ?_⟩
      simp -implicitDefEqProofs (disch := omega) only [go_sem, ↓reduceIte, reduceEqDiff, reduceMul, reduceAdd, reduceDiv, Nat.reduceBEq, reduceLeDiff, reduceToNat, reduceNe, reduceEq, reduceLT, reduceLE, Int.reduceBEq, Int.reduceBNe, e0, e1, e5]
      rfl
  · obtain rfl : i = a.length := by omega
    rw [List.take_length, List.take_of_length_le (by omega)] at ht
    rw [decide_eq_true ht]
    simp -implicitDefEqProofs (disch := omega) only [go_sem, ↓reduceIte, reduceEqDiff, reduceMul, reduceAdd, reduceDiv, Nat.reduceBEq, reduceLeDiff, reduceToNat, reduceNe, reduceEq, reduceLT, reduceLE, Int.reduceBEq, Int.reduceBNe, Tryd.results31]
theorem sameI_ev (a b : List Int) (la : a.length ≤ 1000000000) (lb : b.length ≤ 1000000000) : Ev Tryd.prog 34 [SL a, SL b] (B (decide (a = b))) := by
  refine ev_of Tryd.func34 rfl (by kernel_rfl) mo (Nat.le_of_ble_eq_true rfl) ?_
  simp -implicitDefEqProofs (disch := omega) only [go_sem, ↓reduceIte, reduceEqDiff, reduceMul, reduceAdd, reduceDiv, Nat.reduceBEq, reduceLeDiff, reduceToNat, reduceNe, reduceEq, reduceLT, reduceLE, Int.reduceBEq, Int.reduceBNe, Tryd.ntmps34]
  refine branch_mk (fun h0 => ?_) (fun h0 => ?_)
  · rw [decide_eq_false (fun e => by rw [e] at h0; exact h0 rfl)]
    simp -implicitDefEqProofs (disch := omega) only [go_sem, ↓reduceIte, reduceEqDiff, reduceMul, reduceAdd, reduceDiv, Nat.reduceBEq, reduceLeDiff, reduceToNat, reduceNe, reduceEq, reduceLT, reduceLE, Int.reduceBEq, Int.reduceBNe, Tryd.results34]
  have hl : a.length = b.length := by omega
  simp -implicitDefEqProofs (disch := omega) only [go_sem, ↓reduceIte, reduceEqDiff, reduceMul, reduceAdd, reduceDiv, Nat.reduceBEq, reduceLeDiff, reduceToNat, reduceNe, reduceEq, reduceLT, reduceLE, Int.reduceBEq, Int.reduceBNe]
  refine loopC_mk (fun n E σ => ∃ i : Nat, i + n = a.length ∧ a.take i = b.take i ∧ E 0 = SL a ∧ E 1 = SL b ∧ E 5 = I i) a.length ⟨0, by omega, rfl, ?_⟩ ?_
  · simp -implicitDefEqProofs (disch := omega) only [go_sem, ↓reduceIte, reduceEqDiff, reduceMul, reduceAdd, reduceDiv, Nat.reduceBEq, reduceLeDiff, reduceToNat, reduceNe, reduceEq, reduceLT, reduceLE, Int.reduceBEq, Int.reduceBNe]
    rfl
  rintro n E σ ⟨i, hn, ht, e0, e1, e5⟩
  simp -implicitDefEqProofs (disch := omega) only [go_sem, ↓reduceIte, reduceEqDiff, reduceMul, reduceAdd, reduceDiv, Nat.reduceBEq, reduceLeDiff, reduceToNat, reduceNe, reduceEq, reduceLT, reduceLE, Int.reduceBEq, Int.reduceBNe, e0, e1, e5]
  refine branch_mk (fun hc => ?_) (fun hc => ?_)
  · simp -implicitDefEqProofs (disch := omega) only [go_sem, ↓reduceIte, reduceEqDiff, reduceMul, reduceAdd, reduceDiv, Nat.reduceBEq, reduceLeDiff, reduceToNat, reduceNe, reduceEq, reduceLT, reduceLE, Int.reduceBEq, Int.reduceBNe, e0, e1, e5]
    have hi : i < b.length := by omega
    refine branch_mk (fun hb => ?_) (fun hb => ?_)
    · have hne : gd a i ≠ gd b i := fun e => by rw [e] at hb; simp at hb
      rw [decide_eq_false (take_ne hne)]
      simp -implicitDefEqProofs (disch := omega) only [go_sem, ↓reduceIte, reduceEqDiff, reduceMul, reduceAdd, reduceDiv, Nat.reduceBEq, reduceLeDiff, reduceToNat, reduceNe, reduceEq, reduceLT, reduceLE, Int.reduceBEq, Int.reduceBNe, Tryd.results34]
    · have he : gd a i = gd b i := by simpa using hb
      simp -implicitDefEqProofs (disch := omega) only [go_sem, ↓reduceIte, reduceEqDiff, reduceMul, reduceAdd, reduceDiv, Nat.reduceBEq, reduceLeDiff, reduceToNat, reduceNe, reduceEq, reduceLT, reduceLE, Int.reduceBEq, Int.reduceBNe, e0, e1, e5]
      refine againQ_mk (a.length - (i + 1)) (by omega) ⟨i + 1, by omega, take_ext hl (by omega) ht he, ?_⟩
      simp -implicitDefEqProofs (disch := omega) only [go_sem, ↓reduceIte, reduceEqDiff, reduceMul, reduceAdd, reduceDiv, Nat.reduceBEq, reduceLeDiff, reduceToNat, reduceNe, reduceEq, reduceLT, reduceLE, Int.reduceBEq, Int.reduceBNe, e0, e1, e5]
      rfl
  · obtain rfl : i = a.length := by omega
    rw [List.take_length, List.take_of_length_le (by omega)] at ht
    rw [decide_eq_true ht]
    simp -implicitDefEqProofs (disch := omega) only [go_sem, ↓reduceIte, reduceEqDiff, reduceMul, reduceAdd, reduceDiv, Nat.reduceBEq, reduceLeDiff, reduceToNat, reduceNe, reduceEq, reduceLT, reduceLE, Int.reduceBEq, Int.reduceBNe, Tryd.results34]
end Go.Proofs.YthkihocapdfonaaDoor
set_option maxRecDepth 100000
namespace Go.Proofs.YthkihocapdfonaaDoor
open Go.Vai Go Go.Proofs
open Nat (reduceEqDiff reduceMul reduceAdd reduceDiv reduceLeDiff)
open Int (reduceToNat reduceNe reduceEq reduceLT reduceLE)
theorem pick13_ev (c n : Int) (hc : R64 c) (hn : 0 < n) : Ev Tryd.prog 57 [I c, I n] (I (pickF c n)) := by
  obtain ⟨h1, h2⟩ := hc
  refine ev_of Tryd.func57 rfl (by kernel_rfl) mo (Nat.le_of_ble_eq_true rfl) ?_
  simp -implicitDefEqProofs (disch := omega) only [go_sem, ↓reduceIte, reduceEqDiff, reduceMul, reduceAdd, reduceDiv, Nat.reduceBEq, reduceLeDiff, reduceToNat, reduceNe, reduceEq, reduceLT, reduceLE, Int.reduceBEq, Int.reduceBNe, Tryd.ntmps57]
  refine branch_mk (fun h => ?_) (fun h => ?_) <;> simp -implicitDefEqProofs (disch := omega) only [go_sem, ↓reduceIte, reduceEqDiff, reduceMul, reduceAdd, reduceDiv, Nat.reduceBEq, reduceLeDiff, reduceToNat, reduceNe, reduceEq, reduceLT, reduceLE, Int.reduceBEq, Int.reduceBNe, Tryd.results57]
  · rw [show (0 - (c+1)) = -(c+1) from by omega]; simp [pickF, h]
  · simp [pickF, h]
theorem pick23_ev (c n : Int) (hc : R64 c) (hn : 0 < n) : Ev Tryd.prog 35 [I c, I n] (I (pickF c n)) := by
  obtain ⟨h1, h2⟩ := hc
  refine ev_of Tryd.func35 rfl (by kernel_rfl) mo (Nat.le_of_ble_eq_true rfl) ?_
  simp -implicitDefEqProofs (disch := omega) only [go_sem, ↓reduceIte, reduceEqDiff, reduceMul, reduceAdd, reduceDiv, Nat.reduceBEq, reduceLeDiff, reduceToNat, reduceNe, reduceEq, reduceLT, reduceLE, Int.reduceBEq, Int.reduceBNe, Tryd.ntmps35]
  refine branch_mk (fun h => ?_) (fun h => ?_) <;> simp -implicitDefEqProofs (disch := omega) only [go_sem, ↓reduceIte, reduceEqDiff, reduceMul, reduceAdd, reduceDiv, Nat.reduceBEq, reduceLeDiff, reduceToNat, reduceNe, reduceEq, reduceLT, reduceLE, Int.reduceBEq, Int.reduceBNe, Tryd.results35]
  · rw [show (0 - (c+1)) = -(c+1) from by omega]; simp [pickF, h]
  · simp [pickF, h]
theorem pick_ev (c n : Int) (hc : R64 c) (hn : 0 < n) : Ev Tryd.prog 14 [I c, I n] (I (pickF c n)) := by
  obtain ⟨h1, h2⟩ := hc
  refine ev_of Tryd.func14 rfl (by kernel_rfl) mo (Nat.le_of_ble_eq_true rfl) ?_
  simp -implicitDefEqProofs (disch := omega) only [go_sem, ↓reduceIte, reduceEqDiff, reduceMul, reduceAdd, reduceDiv, Nat.reduceBEq, reduceLeDiff, reduceToNat, reduceNe, reduceEq, reduceLT, reduceLE, Int.reduceBEq, Int.reduceBNe, Tryd.ntmps14]
  refine branch_mk (fun h => ?_) (fun h => ?_) <;> simp -implicitDefEqProofs (disch := omega) only [go_sem, ↓reduceIte, reduceEqDiff, reduceMul, reduceAdd, reduceDiv, Nat.reduceBEq, reduceLeDiff, reduceToNat, reduceNe, reduceEq, reduceLT, reduceLE, Int.reduceBEq, Int.reduceBNe, Tryd.results14]
  · rw [show (0 - (c+1)) = -(c+1) from by omega]; simp [pickF, h]
  · simp [pickF, h]
theorem piece_ev (a b : Int) (ha : R64 a) (hb : R64 b) : Ev Tryd.prog 36 [I a, I b] (RP (pieceF a b)) := by
  have p1 := pickF_in (c := a) (n := 60) (by omega)
  have p2 := pickF_in (c := b) (n := 60 - pickF a 60) (by omega)
  have e1 := pick13_ev a 60 ha (by omega)
  have e2 := pick13_ev b (60 - pickF a 60) hb (by omega)
  have e3 := pick13_ev a 8 ha (by omega)
  unfold pieceF
  generalize pickF a 60 = u at *
  generalize pickF b (60 - u) = v at *
  generalize pickF a 8 = w at *
  refine ev_of Tryd.func36 rfl (by kernel_rfl) mo (Nat.le_of_ble_eq_true rfl) ?_
  simp -implicitDefEqProofs (disch := omega) only [go_sem, ↓reduceIte, reduceEqDiff, reduceMul, reduceAdd, reduceDiv, Nat.reduceBEq, reduceLeDiff, reduceToNat, reduceNe, reduceEq, reduceLT, reduceLE, Int.reduceBEq, Int.reduceBNe, Tryd.ntmps36]
  refine callC_at e1 ?_
  simp -implicitDefEqProofs (disch := omega) only [go_sem, ↓reduceIte, reduceEqDiff, reduceMul, reduceAdd, reduceDiv, Nat.reduceBEq, reduceLeDiff, reduceToNat, reduceNe, reduceEq, reduceLT, reduceLE, Int.reduceBEq, Int.reduceBNe]
  refine callC_at e2 ?_
  simp -implicitDefEqProofs (disch := omega) only [go_sem, ↓reduceIte, reduceEqDiff, reduceMul, reduceAdd, reduceDiv, Nat.reduceBEq, reduceLeDiff, reduceToNat, reduceNe, reduceEq, reduceLT, reduceLE, Int.reduceBEq, Int.reduceBNe]
  refine callC_at e3 ?_
  simp -implicitDefEqProofs (disch := omega) only [go_sem, ↓reduceIte, reduceEqDiff, reduceMul, reduceAdd, reduceDiv, Nat.reduceBEq, reduceLeDiff, reduceToNat, reduceNe, reduceEq, reduceLT, reduceLE, Int.reduceBEq, Int.reduceBNe]
  refine branch_mk (fun h => ?_) (fun h => ?_)
  · rw [if_pos h]
    simp -implicitDefEqProofs (disch := omega) only [go_sem, ↓reduceIte, reduceEqDiff, reduceMul, reduceAdd, reduceDiv, Nat.reduceBEq, reduceLeDiff, reduceToNat, reduceNe, reduceEq, reduceLT, reduceLE, Int.reduceBEq, Int.reduceBNe, h, Tryd.results36]
  · rw [if_neg h]
    simp -implicitDefEqProofs (disch := omega) only [go_sem, ↓reduceIte, reduceEqDiff, reduceMul, reduceAdd, reduceDiv, Nat.reduceBEq, reduceLeDiff, reduceToNat, reduceNe, reduceEq, reduceLT, reduceLE, Int.reduceBEq, Int.reduceBNe, h, Tryd.results36]
abbrev QP (q : Q4) : AV := .agg [I q.a, I q.b, I q.c, I q.d]
abbrev QL (x : List Q4) : AV := .sl 4 (x.map QP)
def Q4.ok (q : Q4) : Prop := R64 q.a ∧ R64 q.b ∧ R64 q.c ∧ R64 q.d
section
variable (p : Nat → Bool) (l : List Q4)
@[go_sem] theorem namesL_QP : AV.namesL p (l.map QP) = false := namesL_map p l QP fun _ => rfl
@[go_sem] theorem flatL_QP : AV.flatL (l.map QP) = true := flatL_map l QP fun _ => rfl
@[go_sem] theorem allOK_QP : allOK 4 (l.map QP) = true := allOK_map 4 l QP fun _ => ⟨rfl, rfl⟩
end
def tmU : List Q4 → Int → Int
  | [], t => t
  | x :: l, t => tmU l (t + pickF x.d 4)
theorem tmU_in : ∀ (l : List Q4) (t : Int), t ≤ tmU l t ∧ tmU l t ≤ t + 3 * l.length
  | [], t => by simp [tmU]
  | x :: l, t => by
    have h := pickF_in (c := x.d) (n := 4) (by omega)
    have ih := tmU_in l (t + pickF x.d 4)
    rw [tmU, List.length_cons]
    omega
theorem made_snoc : ∀ (l : List Q4) (t : Int) (x : Q4), madeU (l ++ [x]) t = madeU l t ++ [⟨(pieceF x.a x.b).1, (pieceF x.a x.b).2, pickF x.c 5 - 1, tmU l t + pickF x.d 4⟩] ∧ tmU (l ++ [x]) t = tmU l t + pickF x.d 4
  | [], t, x => ⟨rfl, rfl⟩
  | y :: l, t, x => by
    obtain ⟨h1, h2⟩ := made_snoc l (t + pickF y.d 4) x
    exact ⟨by rw [List.cons_append, madeU, h1, madeU, tmU]; rfl, by rw [List.cons_append, tmU, h2, tmU]⟩
set_option maxHeartbeats 1000000 in
theorem made_ev (x : List Q4) (hx : ∀ q ∈ x, q.ok) (hn : x.length ≤ 9223372036854775807) : Ev Tryd.prog 12 [QL x] (UPS (madeF x)) := by
  refine ev_sl (r := .new 35 4 ((madeF x).map UP)) ?_ _
  refine ev_of Tryd.func12 rfl (by kernel_rfl) mo (Nat.le_of_ble_eq_true rfl) ?_
  simp -implicitDefEqProofs (disch := omega) only [go_sem, ↓reduceIte, reduceEqDiff, reduceMul, reduceAdd, reduceDiv, Nat.reduceBEq, reduceLeDiff, reduceToNat, reduceNe, reduceEq, reduceLT, reduceLE, Int.reduceBEq, Int.reduceBNe, Tryd.ntmps12]
  refine loopC_mk (fun n E σ => ∃ i : Nat, i + n = 14 ∧ i ≤ x.length ∧ E 0 = QL x ∧ E 3 = .own 27263024 4 0 i ∧ E 4 = I (tmU (x.take i) 0) ∧ E 5 = I i ∧ σ 27263024 = some ⟨35, 4, (madeU (x.take i) 0).map UP⟩) 14 ⟨0, by omega, by omega, ?_⟩ ?_
  · simp -implicitDefEqProofs (disch := omega) only [go_sem, ↓reduceIte, reduceEqDiff, reduceMul, reduceAdd, reduceDiv, Nat.reduceBEq, reduceLeDiff, reduceToNat, reduceNe, reduceEq, reduceLT, reduceLE, Int.reduceBEq, Int.reduceBNe]
    exact ⟨rfl, rfl, rfl⟩
  rintro n E σ ⟨i, hn, hi, e0, e3, e4, e5, m3⟩
  have fin : i = 14 ∨ i = x.length → madeF x = madeU (x.take i) 0 := fun h => by
    unfold madeF
    rcases h with rfl | rfl
    · rfl
    · rw [List.take_length, List.take_of_length_le (by omega)]
  simp -implicitDefEqProofs (disch := omega) only [go_sem, ↓reduceIte, reduceEqDiff, reduceMul, reduceAdd, reduceDiv, Nat.reduceBEq, reduceLeDiff, reduceToNat, reduceNe, reduceEq, reduceLT, reduceLE, Int.reduceBEq, Int.reduceBNe, e0, e3, e4, e5, m3]
  have hlen := madeU_len (x.take i) 0
  rw [List.length_take, Nat.min_eq_left hi] at hlen
  refine branch_mk (fun hc => ?_) (fun hc => ?_)
  · simp -implicitDefEqProofs (disch := omega) only [go_sem, ↓reduceIte, reduceEqDiff, reduceMul, reduceAdd, reduceDiv, Nat.reduceBEq, reduceLeDiff, reduceToNat, reduceNe, reduceEq, reduceLT, reduceLE, Int.reduceBEq, Int.reduceBNe, e0, e3, e4, e5, m3]
    refine branch_mk (fun hc2 => ?_) (fun hc2 => ?_)
    · have hq := hx _ (gd_mem x i (by omega))
      obtain ⟨hm, htm⟩ := made_snoc (x.take i) 0 (gd x i)
      rw [← take_succ' x i (by omega)] at hm htm
      have htb := tmU_in (x.take i) 0
      have hp1 := pickF_in (c := (gd x i).d) (n := 4) (by omega)
      have hp2 := pickF_in (c := (gd x i).c) (n := 5) (by omega)
      have hlt : (x.take i).length ≤ 14 := by rw [List.length_take]; omega
      have c1 := pick23_ev (gd x i).d 4 hq.2.2.2 (by omega)
      have c2 := piece_ev (gd x i).a (gd x i).b hq.1 hq.2.1
      have c3 := pick23_ev (gd x i).c 5 hq.2.2.1 (by omega)
      generalize pickF (gd x i).d 4 = pd at *
      generalize pickF (gd x i).c 5 = pc at *
      generalize pieceF (gd x i).a (gd x i).b = pr at *
      obtain ⟨pf, pt⟩ := pr
      simp only at hm
      generalize tmU (x.take i) 0 = tm at *
      generalize madeU (x.take i) 0 = o at *
      simp -implicitDefEqProofs (disch := omega) only [go_sem, ↓reduceIte, reduceEqDiff, reduceMul, reduceAdd, reduceDiv, Nat.reduceBEq, reduceLeDiff, reduceToNat, reduceNe, reduceEq, reduceLT, reduceLE, Int.reduceBEq, Int.reduceBNe, e0, e3, e4, e5, m3]
      refine callC_at c1 ?_
      simp -implicitDefEqProofs (disch := omega) only [go_sem, ↓reduceIte, reduceEqDiff, reduceMul, reduceAdd, reduceDiv, Nat.reduceBEq, reduceLeDiff, reduceToNat, reduceNe, reduceEq, reduceLT, reduceLE, Int.reduceBEq, Int.reduceBNe, e0, e3, e4, e5, m3]
      refine callC_at c2 ?_
      simp -implicitDefEqProofs (disch := omega) only [go_sem, ↓reduceIte, reduceEqDiff, reduceMul, reduceAdd, reduceDiv, Nat.reduceBEq, reduceLeDiff, reduceToNat, reduceNe, reduceEq, reduceLT, reduceLE, Int.reduceBEq, Int.reduceBNe, e0, e3, e4, e5, m3]
      refine callC_at c3 ?_
      simp -implicitDefEqProofs (disch := omega) only [go_sem, ↓reduceIte, reduceEqDiff, reduceMul, reduceAdd, reduceDiv, Nat.reduceBEq, reduceLeDiff, reduceToNat, reduceNe, reduceEq, reduceLT, reduceLE, Int.reduceBEq, Int.reduceBNe, e0, e3, e4, e5, m3]
      refine againQ_mk (14 - (i + 1)) (by omega) ⟨i + 1, by omega, by omega, ?_⟩
      simp -implicitDefEqProofs (disch := omega) only [go_sem, ↓reduceIte, reduceEqDiff, reduceMul, reduceAdd, reduceDiv, Nat.reduceBEq, reduceLeDiff, reduceToNat, reduceNe, reduceEq, reduceLT, reduceLE, Int.reduceBEq, Int.reduceBNe, e0, e3, e4, e5, m3, htm, hm]
      rfl
    · rw [fin (.inl (by omega))]
      simp -implicitDefEqProofs (disch := omega) only [go_sem, ↓reduceIte, reduceEqDiff, reduceMul, reduceAdd, reduceDiv, Nat.reduceBEq, reduceLeDiff, reduceToNat, reduceNe, reduceEq, reduceLT, reduceLE, Int.reduceBEq, Int.reduceBNe, e0, e3, e4, e5, m3, Tryd.results12]
  · rw [fin (.inr (by omega))]
    have hlen3 : (madeU x 0).length = i := by rw [madeU_len]; omega
    simp -implicitDefEqProofs (disch := omega) only [go_sem, ↓reduceIte, reduceEqDiff, reduceMul, reduceAdd, reduceDiv, Nat.reduceBEq, reduceLeDiff, reduceToNat, reduceNe, reduceEq, reduceLT, reduceLE, Int.reduceBEq, Int.reduceBNe, e0, e3, e4, e5, m3, Tryd.results12]
set_option maxHeartbeats 1000000 in
theorem near_ev (l : List Up) (which n : Int) (hl : l.length ≤ 1000) (hu : ∀ u ∈ l, u.nb) (hw : R64 which) (hn : R64 n) : Ev Tryd.prog 20 [UPS l, I which, I n] (I (nearF l which n)) := by
  refine ev_of Tryd.func20 rfl (by kernel_rfl) mo (Nat.le_of_ble_eq_true rfl) ?_
  simp -implicitDefEqProofs (disch := omega) only [go_sem, ↓reduceIte, reduceEqDiff, reduceMul, reduceAdd, reduceDiv, Nat.reduceBEq, reduceLeDiff, reduceToNat, reduceNe, reduceEq, reduceLT, reduceLE, Int.reduceBEq, Int.reduceBNe, Tryd.ntmps20]
  have c0 := pick23_ev n 100000000 hn (by omega)
  have c1 := pick23_ev which 4 hw (by omega)
  unfold nearF
  refine branch_mk (fun h0 => ?_) (fun h0 => ?_)
  · rw [if_pos (.inl (by omega))]
    simp -implicitDefEqProofs (disch := omega) only [go_sem, ↓reduceIte, reduceEqDiff, reduceMul, reduceAdd, reduceDiv, Nat.reduceBEq, reduceLeDiff, reduceToNat, reduceNe, reduceEq, reduceLT, reduceLE, Int.reduceBEq, Int.reduceBNe, h0]
    refine callC_at c0 ?_
    simp -implicitDefEqProofs (disch := omega) only [go_sem, ↓reduceIte, reduceEqDiff, reduceMul, reduceAdd, reduceDiv, Nat.reduceBEq, reduceLeDiff, reduceToNat, reduceNe, reduceEq, reduceLT, reduceLE, Int.reduceBEq, Int.reduceBNe, Tryd.results20]
  simp -implicitDefEqProofs (disch := omega) only [go_sem, ↓reduceIte, reduceEqDiff, reduceMul, reduceAdd, reduceDiv, Nat.reduceBEq, reduceLeDiff, reduceToNat, reduceNe, reduceEq, reduceLT, reduceLE, Int.reduceBEq, Int.reduceBNe, h0]
  refine callC_at c1 ?_
  simp -implicitDefEqProofs (disch := omega) only [go_sem, ↓reduceIte, reduceEqDiff, reduceMul, reduceAdd, reduceDiv, Nat.reduceBEq, reduceLeDiff, reduceToNat, reduceNe, reduceEq, reduceLT, reduceLE, Int.reduceBEq, Int.reduceBNe, h0]
  refine branch_mk (fun h1 => ?_) (fun h1 => ?_)
  · rw [if_pos (.inr h1)]
    simp -implicitDefEqProofs (disch := omega) only [go_sem, ↓reduceIte, reduceEqDiff, reduceMul, reduceAdd, reduceDiv, Nat.reduceBEq, reduceLeDiff, reduceToNat, reduceNe, reduceEq, reduceLT, reduceLE, Int.reduceBEq, Int.reduceBNe]
    refine callC_at c0 ?_
    simp -implicitDefEqProofs (disch := omega) only [go_sem, ↓reduceIte, reduceEqDiff, reduceMul, reduceAdd, reduceDiv, Nat.reduceBEq, reduceLeDiff, reduceToNat, reduceNe, reduceEq, reduceLT, reduceLE, Int.reduceBEq, Int.reduceBNe, Tryd.results20]
  rw [if_neg (fun h => h.elim (fun e => h0 (by omega)) h1)]
  obtain ⟨w1, w2⟩ := hw
  have c2 := pick23_ev (which.tdiv 8) l.length (R64_tdiv (by omega) ⟨w1, w2⟩) (by omega)
  have c3 := pick23_ev (which.tdiv 4) 2 (R64_tdiv (by omega) ⟨w1, w2⟩) (by omega)
  have c4 := pick23_ev n 3 hn (by omega)
  have k1 := pickF_in (c := which.tdiv 8) (n := l.length) (by omega)
  have k2 := pickF_in (c := n) (n := 3) (by omega)
  have k3 := pickF_in (c := which.tdiv 4) (n := 2) (by omega)
  obtain ⟨⟨u1, u1'⟩, ⟨u2, u2'⟩, _, _⟩ := hu _ (gd_mem l (pickF (which.tdiv 8) l.length).toNat (by omega))
  generalize hk : pickF (which.tdiv 8) l.length = k at *
  generalize pickF n 3 = q at *
  generalize pickF (which.tdiv 4) 2 = e at *
  simp -implicitDefEqProofs (disch := omega) only [go_sem, ↓reduceIte, reduceEqDiff, reduceMul, reduceAdd, reduceDiv, Nat.reduceBEq, reduceLeDiff, reduceToNat, reduceNe, reduceEq, reduceLT, reduceLE, Int.reduceBEq, Int.reduceBNe, h0]
  refine callC_at c2 ?_
  simp -implicitDefEqProofs (disch := omega) only [go_sem, ↓reduceIte, reduceEqDiff, reduceMul, reduceAdd, reduceDiv, Nat.reduceBEq, reduceLeDiff, reduceToNat, reduceNe, reduceEq, reduceLT, reduceLE, Int.reduceBEq, Int.reduceBNe, h0]
  refine callC_at c3 ?_
  simp -implicitDefEqProofs (disch := omega) only [go_sem, ↓reduceIte, reduceEqDiff, reduceMul, reduceAdd, reduceDiv, Nat.reduceBEq, reduceLeDiff, reduceToNat, reduceNe, reduceEq, reduceLT, reduceLE, Int.reduceBEq, Int.reduceBNe, h0]
  refine branch_mk (fun h2 => ?_) (fun h2 => ?_)
  · rw [if_pos h2]
    simp -implicitDefEqProofs (disch := omega) only [go_sem, ↓reduceIte, reduceEqDiff, reduceMul, reduceAdd, reduceDiv, Nat.reduceBEq, reduceLeDiff, reduceToNat, reduceNe, reduceEq, reduceLT, reduceLE, Int.reduceBEq, Int.reduceBNe]
    refine callC_at c4 ?_
    simp -implicitDefEqProofs (disch := omega) only [go_sem, ↓reduceIte, reduceEqDiff, reduceMul, reduceAdd, reduceDiv, Nat.reduceBEq, reduceLeDiff, reduceToNat, reduceNe, reduceEq, reduceLT, reduceLE, Int.reduceBEq, Int.reduceBNe, Tryd.results20]
    rfl
  · rw [if_neg h2]
    simp -implicitDefEqProofs (disch := omega) only [go_sem, ↓reduceIte, reduceEqDiff, reduceMul, reduceAdd, reduceDiv, Nat.reduceBEq, reduceLeDiff, reduceToNat, reduceNe, reduceEq, reduceLT, reduceLE, Int.reduceBEq, Int.reduceBNe]
    refine callC_at c4 ?_
    simp -implicitDefEqProofs (disch := omega) only [go_sem, ↓reduceIte, reduceEqDiff, reduceMul, reduceAdd, reduceDiv, Nat.reduceBEq, reduceLeDiff, reduceToNat, reduceNe, reduceEq, reduceLT, reduceLE, Int.reduceBEq, Int.reduceBNe, Tryd.results20]
    rfl
end Go.Proofs.YthkihocapdfonaaDoor
set_option maxRecDepth 100000
namespace Go.Proofs.YthkihocapdfonaaDoor
open Go.Vai Go Go.Proofs
open Nat (reduceEqDiff reduceMul reduceAdd reduceDiv reduceLeDiff)
open Int (reduceToNat reduceNe reduceEq reduceLT reduceLE)
theorem pcsN_fuel : ∀ (m n : Nat) (a b : List Bk) (p : Int), (pcsN m a b p).length < m → m ≤ n → pcsN n a b p = pcsN m a b p
  | 0, _, _, _, _, h, _ => by cases h
  | m + 1, 0, _, _, _, _, h => by cases h
  | m + 1, n + 1, a, b, p, h, hn => by
    rw [pcsN, pcsN]
    rw [pcsN] at h
    split
    · rename_i hp
      rw [if_pos hp, List.length_cons] at h
      rw [pcsN_fuel m n _ _ _ (by omega) (by omega)]
    · rfl
theorem cmbF_at (h : Int → Int → Int) (a b : List Bk) (hl : (pcsN 20 a b 0).length < 20) : cmbF h a b = (pcsN 20 a b 0).foldl (cmbS h) [] := by
  unfold cmbF; rw [pcsN_fuel 20 100000000 a b 0 hl (by omega)]
theorem difF_at (a b : List Bk) (hl : (pcsN 20 a b 0).length < 20) : difF a b = (pcsN 20 a b 0).foldl difS [] := by
  unfold difF; rw [pcsN_fuel 20 100000000 a b 0 hl (by omega)]
def EX : List Up := [⟨100, 200, 1, 10⟩, ⟨150, 300, 2, 20⟩, ⟨160, 170, -1, 20⟩]
def M1 : List Bk := [⟨100, 200, 1⟩]
def M2 : List Bk := [⟨100, 150, 1⟩, ⟨150, 300, 2⟩]
def M3 : List Bk := [⟨100, 150, 1⟩, ⟨150, 160, 2⟩, ⟨170, 300, 2⟩]
theorem ex1 : stepU [] ⟨100, 200, 1, 10⟩ = some M1 := by
  show (if (1 : Int) = -1 then takeF [] 100 200 else giveF [] 100 200 1) = _
  rw [if_neg (by decide)]; unfold giveF
  rw [cmbF_at _ _ _ (by decide)]; decide
theorem ex2 : stepU M1 ⟨150, 300, 2, 20⟩ = some M2 := by
  show (if (2 : Int) = -1 then takeF M1 150 300 else giveF M1 150 300 2) = _
  rw [if_neg (by decide)]; unfold giveF
  rw [cmbF_at _ _ _ (by decide)]; decide
theorem ex3 : stepU M2 ⟨160, 170, -1, 20⟩ = some M3 := by
  show (if (-1 : Int) = -1 then takeF M2 160 170 else giveF M2 160 170 (-1)) = _
  rw [if_pos rfl]; unfold takeF
  rw [cmbF_at _ _ _ (by decide)]; decide
theorem exM : mapsF [] EX = [[], M1, M2, M3] := by
  unfold EX
  rw [mapsF, ex1]; simp only
  rw [mapsF, ex2]; simp only
  rw [mapsF, ex3]; simp only
  rw [mapsF]
theorem exV : validT EX = true := by
  refine validT_iff.2 ⟨by decide, by decide, ?_⟩
  rw [exM]; rfl
theorem exD : difF M1 M3 = [(150, 300)] := by
  rw [difF_at _ _ (by decide)]; decide
theorem ex_in (k : Int) (h0 : 0 ≤ k) (h3 : k ≤ 3) : inV EX k := ⟨exV, h0, h3⟩
theorem exEnc : encU ⟨100, 200, 1, 10⟩ = ⟨#[200, 1, 144, 3, 2, 20]⟩ := by decide
theorem ex_bad : validT [⟨0, 0, 0, 0⟩] = false := by
  cases h : validT [⟨0, 0, 0, 0⟩] with
  | false => rfl
  | true =>
    have h3 := (validT_iff.1 h).2.2
    have : stepU [] ⟨0, 0, 0, 0⟩ = none := by
      show (if (0 : Int) = -1 then takeF [] 0 0 else giveF [] 0 0 0) = _
      rw [if_neg (by decide)]; unfold giveF
      rw [if_neg (by decide)]
    rw [mapsF, this] at h3
    cases h3
end Go.Proofs.YthkihocapdfonaaDoor
set_option maxRecDepth 100000
namespace Go.Proofs.YthkihocapdfonaaDoor
open Go.Vai Go Go.Proofs
open Nat (reduceEqDiff reduceMul reduceAdd reduceDiv reduceLeDiff)
open Int (reduceToNat reduceNe reduceEq reduceLT reduceLE)
theorem example_ev : Ev Tryd.prog 32 [] (UPS EX) := by
  refine ev_sl (r := .new 35 4 (EX.map UP)) ?_ _
  refine ev_of Tryd.func32 rfl (by kernel_rfl) mo (Nat.le_of_ble_eq_true rfl) ?_
  simp -implicitDefEqProofs (disch := omega) only [go_sem, ↓reduceIte, reduceEqDiff, reduceMul, reduceAdd, reduceDiv, Nat.reduceBEq, reduceLeDiff, reduceToNat, reduceNe, reduceEq, reduceLT, reduceLE, Int.reduceBEq, Int.reduceBNe, Tryd.ntmps32, Tryd.results32]
  rfl
theorem cm3 : Ev Tryd.prog 13 [UPS EX, I 3] (.tup [BL M3, I 0]) := by
  have h := map_ev EX 3 (by decide)
  have e : mapV EX (3 : Int).toNat = M3 := by show gd (mapsF [] EX) 3 = _; rw [exM]; rfl
  rw [if_pos (ex_in 3 (by decide) (by decide)), if_pos (ex_in 3 (by decide) (by decide)), e] at h
  exact h
theorem cm4 : Ev Tryd.prog 13 [UPS EX, I 4] (.tup [BL [], I 230]) := by
  have h := map_ev EX 4 (by decide)
  have e : ¬ inV EX 4 := fun h => by have := h.2.2; revert this; decide
  rw [if_neg e, if_neg e] at h
  exact h
theorem chd (k : Nat) (hk : k ≤ 3) : Ev Tryd.prog 21 [UPS EX, I 165, I k] (.tup [I (heldV EX 165 k), I 0]) := by
  have h := held_ev EX 165 k (by decide)
  have e : inV EX k ∧ (0 : Int) ≤ 165 ∧ (165 : Int) ≤ 99999999 := ⟨ex_in k (by omega) (by omega), by decide, by decide⟩
  rw [if_pos e, if_pos e, Int.toNat_natCast] at h
  exact h
theorem cs1 : Ev Tryd.prog 23 [UPS EX, I 100, I 3] (.tup [I 1, I 0]) := by
  have h := since_ev EX 100 3 (by decide)
  have e : inV EX 3 ∧ inN 100 := ⟨ex_in 3 (by decide) (by decide), by decide⟩
  rw [if_pos e, if_pos e, show sinF EX 100 (3 : Int).toNat = 1 from by decide] at h
  exact h
theorem cs2 : Ev Tryd.prog 23 [UPS EX, I 165, I 3] (.tup [I 3, I 0]) := by
  have h := since_ev EX 165 3 (by decide)
  have e : inV EX 3 ∧ inN 165 := ⟨ex_in 3 (by decide) (by decide), by decide⟩
  rw [if_pos e, if_pos e, show sinF EX 165 (3 : Int).toNat = 3 from by decide] at h
  exact h
theorem cvn (t n : Int) (h0 : 0 ≤ t ∧ t ≤ 10000000) (hn : ((atF EX t : Nat) : Int) = n) : Ev Tryd.prog 26 [UPS EX, I t] (.tup [I n, I 0]) := by
  have h := version_ev EX t (by decide)
  have e : inT EX t 0 := ⟨h0, by decide, exV⟩
  rw [if_pos e, if_pos e, hn] at h
  exact h
theorem ckn (t lag m n : Int) (h0 : 0 ≤ t ∧ t ≤ 10000000) (h1 : 0 ≤ lag ∧ lag ≤ 100000) (hm : ((atF EX (t - lag) : Nat) : Int) = m) (hn : ((atF EX t : Nat) : Int) = n) : Ev Tryd.prog 25 [UPS EX, I t, I lag] (.tup [I m, I n, I 0]) := by
  have h := known_ev EX t lag (by decide)
  have e : inT EX t lag := ⟨h0, h1, exV⟩
  rw [if_pos e, if_pos e, if_pos e, hn, hm] at h
  exact h
theorem cbw : Ev Tryd.prog 24 [UPS EX, I 165, I 1, I 3] (.tup [SL [-1, 1, 2], I 0]) := by
  have h := between_ev EX 165 1 3 (by decide)
  have e : inB EX 165 1 3 := ⟨⟨exV, by decide⟩, by decide, by decide⟩
  rw [if_pos e, if_pos e, show betF EX 165 (1 : Int).toNat (3 : Int).toNat = [-1, 1, 2] from by decide] at h
  exact h
theorem cdf : Ev Tryd.prog 27 [UPS EX, I 1, I 3] (.tup [RL [(150, 300)], I 0]) := by
  have h := tdiffer_ev EX 1 3 (by decide)
  have e : inV EX 1 ∧ inV EX 3 := ⟨ex_in 1 (by decide) (by decide), ex_in 3 (by decide) (by decide)⟩
  have e1 : mapV EX (1 : Int).toNat = M1 := by show gd (mapsF [] EX) 1 = _; rw [exM]; rfl
  have e3 : mapV EX (3 : Int).toNat = M3 := by show gd (mapsF [] EX) 3 = _; rw [exM]; rfl
  rw [if_pos e, if_pos e, e1, e3, exD] at h
  exact h
def exH : ByteArray := chainF zero32 ⟨#[200, 1, 144, 3, 2, 20]⟩
theorem chead : Ev Tryd.prog 29 [UPS EX, I 1] (.tup [Str exH, I 0]) := by
  have h := head_ev EX 1 (by decide)
  have e : headN EX (1 : Int).toNat = exH := by
    show chainF zero32 (encU (gd EX 0)) = _
    rw [show gd EX 0 = ⟨100, 200, 1, 10⟩ from rfl, exEnc]; rfl
  rw [if_pos (ex_in 1 (by decide) (by decide)), if_pos (ex_in 1 (by decide) (by decide)), e] at h
  exact h
theorem cchain : Ev Tryd.prog 33 [Str zero32, Str ⟨#[200, 1, 144, 3, 2, 20]⟩] (Str exH) := chain_ev _ _ (by decide)
theorem exH_size : exH.size = 32 := shaF_size _
theorem cbad : Ev Tryd.prog 15 [UPS [⟨0, 0, 0, 0⟩]] (B false) := by
  have h := tvalid_ev [⟨0, 0, 0, 0⟩] (by decide)
  rw [ex_bad] at h; exact h
theorem cgood : Ev Tryd.prog 15 [UPS EX] (B true) := by
  have h := tvalid_ev EX (by decide)
  rw [exV] at h; exact h
set_option maxHeartbeats 4000000 in
theorem sane_ev : Ev Tryd.prog 11 [] (B true) := by
  have hsz := exH_size
  have cH := cchain
  have cD := chead
  generalize exH = H at *
  refine ev_of Tryd.func11 rfl (by kernel_rfl) mo (Nat.le_of_ble_eq_true rfl) ?_
  simp -implicitDefEqProofs (disch := omega) only [go_sem, ↓reduceIte, reduceEqDiff, reduceMul, reduceAdd, reduceDiv, Nat.reduceBEq, reduceLeDiff, reduceToNat, reduceNe, reduceEq, reduceLT, reduceLE, Int.reduceBEq, Int.reduceBNe, Tryd.ntmps11]
  refine callC_at example_ev ?_
  simp -implicitDefEqProofs (disch := omega) only [go_sem, ↓reduceIte, reduceEqDiff, reduceMul, reduceAdd, reduceDiv, Nat.reduceBEq, reduceLeDiff, reduceToNat, reduceNe, reduceEq, reduceLT, reduceLE, Int.reduceBEq, Int.reduceBNe]
  refine callC_at cm3 ?_
  simp -implicitDefEqProofs (disch := omega) only [go_sem, ↓reduceIte, reduceEqDiff, reduceMul, reduceAdd, reduceDiv, Nat.reduceBEq, reduceLeDiff, reduceToNat, reduceNe, reduceEq, reduceLT, reduceLE, Int.reduceBEq, Int.reduceBNe]
  refine callC_at (sameB_ev M3 M3 (by decide) (by decide)) ?_
  simp -implicitDefEqProofs (disch := omega) only [go_sem, ↓reduceIte, reduceEqDiff, reduceMul, reduceAdd, reduceDiv, Nat.reduceBEq, reduceLeDiff, reduceToNat, reduceNe, reduceEq, reduceLT, reduceLE, Int.reduceBEq, Int.reduceBNe]
  refine loopC_mk (fun n E σ => ∃ i : Nat, i + n = 4 ∧ E 1 = UPS EX ∧ E 5 = I i) 4 ⟨0, by omega, ?_⟩ ?_
  · simp -implicitDefEqProofs (disch := omega) only [go_sem, ↓reduceIte, reduceEqDiff, reduceMul, reduceAdd, reduceDiv, Nat.reduceBEq, reduceLeDiff, reduceToNat, reduceNe, reduceEq, reduceLT, reduceLE, Int.reduceBEq, Int.reduceBNe]
    rfl
  rintro n E σ ⟨i, hn, e1, e5⟩
  simp -implicitDefEqProofs (disch := omega) only [go_sem, ↓reduceIte, reduceEqDiff, reduceMul, reduceAdd, reduceDiv, Nat.reduceBEq, reduceLeDiff, reduceToNat, reduceNe, reduceEq, reduceLT, reduceLE, Int.reduceBEq, Int.reduceBNe, e1, e5]
  refine branch_mk (fun hc => ?_) (fun hc => ?_)
  · have hcases : i = 0 ∨ i = 1 ∨ i = 2 ∨ i = 3 := by omega
    simp -implicitDefEqProofs (disch := omega) only [go_sem, ↓reduceIte, reduceEqDiff, reduceMul, reduceAdd, reduceDiv, Nat.reduceBEq, reduceLeDiff, reduceToNat, reduceNe, reduceEq, reduceLT, reduceLE, Int.reduceBEq, Int.reduceBNe, e1, e5]
    refine callC_at (chd i (by omega)) ?_
    rcases hcases with rfl | rfl | rfl | rfl
    · rw [show heldV EX 165 0 = -1 from by decide]
      simp -implicitDefEqProofs (disch := omega) only [go_sem, ↓reduceIte, reduceEqDiff, reduceMul, reduceAdd, reduceDiv, Nat.reduceBEq, reduceLeDiff, reduceToNat, reduceNe, reduceEq, reduceLT, reduceLE, Int.reduceBEq, Int.reduceBNe, e1, e5]
      refine againQ_mk 3 (by omega) ⟨1, by omega, ?_⟩
      simp -implicitDefEqProofs (disch := omega) only [go_sem, ↓reduceIte, reduceEqDiff, reduceMul, reduceAdd, reduceDiv, Nat.reduceBEq, reduceLeDiff, reduceToNat, reduceNe, reduceEq, reduceLT, reduceLE, Int.reduceBEq, Int.reduceBNe, e1, e5]
      rfl
    · rw [show heldV EX 165 1 = 1 from by decide]
      simp -implicitDefEqProofs (disch := omega) only [go_sem, ↓reduceIte, reduceEqDiff, reduceMul, reduceAdd, reduceDiv, Nat.reduceBEq, reduceLeDiff, reduceToNat, reduceNe, reduceEq, reduceLT, reduceLE, Int.reduceBEq, Int.reduceBNe, e1, e5]
      refine againQ_mk 2 (by omega) ⟨2, by omega, ?_⟩
      simp -implicitDefEqProofs (disch := omega) only [go_sem, ↓reduceIte, reduceEqDiff, reduceMul, reduceAdd, reduceDiv, Nat.reduceBEq, reduceLeDiff, reduceToNat, reduceNe, reduceEq, reduceLT, reduceLE, Int.reduceBEq, Int.reduceBNe, e1, e5]
      rfl
    · rw [show heldV EX 165 2 = 2 from by decide]
      simp -implicitDefEqProofs (disch := omega) only [go_sem, ↓reduceIte, reduceEqDiff, reduceMul, reduceAdd, reduceDiv, Nat.reduceBEq, reduceLeDiff, reduceToNat, reduceNe, reduceEq, reduceLT, reduceLE, Int.reduceBEq, Int.reduceBNe, e1, e5]
      refine againQ_mk 1 (by omega) ⟨3, by omega, ?_⟩
      simp -implicitDefEqProofs (disch := omega) only [go_sem, ↓reduceIte, reduceEqDiff, reduceMul, reduceAdd, reduceDiv, Nat.reduceBEq, reduceLeDiff, reduceToNat, reduceNe, reduceEq, reduceLT, reduceLE, Int.reduceBEq, Int.reduceBNe, e1, e5]
      rfl
    · rw [show heldV EX 165 3 = -1 from by decide]
      simp -implicitDefEqProofs (disch := omega) only [go_sem, ↓reduceIte, reduceEqDiff, reduceMul, reduceAdd, reduceDiv, Nat.reduceBEq, reduceLeDiff, reduceToNat, reduceNe, reduceEq, reduceLT, reduceLE, Int.reduceBEq, Int.reduceBNe, e1, e5]
      refine againQ_mk 0 (by omega) ⟨4, by omega, ?_⟩
      simp -implicitDefEqProofs (disch := omega) only [go_sem, ↓reduceIte, reduceEqDiff, reduceMul, reduceAdd, reduceDiv, Nat.reduceBEq, reduceLeDiff, reduceToNat, reduceNe, reduceEq, reduceLT, reduceLE, Int.reduceBEq, Int.reduceBNe, e1, e5]
      rfl
  simp -implicitDefEqProofs (disch := omega) only [go_sem, ↓reduceIte, reduceEqDiff, reduceMul, reduceAdd, reduceDiv, Nat.reduceBEq, reduceLeDiff, reduceToNat, reduceNe, reduceEq, reduceLT, reduceLE, Int.reduceBEq, Int.reduceBNe, e1]
  refine callC_at cs1 ?_
  simp -implicitDefEqProofs (disch := omega) only [go_sem, ↓reduceIte, reduceEqDiff, reduceMul, reduceAdd, reduceDiv, Nat.reduceBEq, reduceLeDiff, reduceToNat, reduceNe, reduceEq, reduceLT, reduceLE, Int.reduceBEq, Int.reduceBNe, e1]
  refine callC_at cs2 ?_
  simp -implicitDefEqProofs (disch := omega) only [go_sem, ↓reduceIte, reduceEqDiff, reduceMul, reduceAdd, reduceDiv, Nat.reduceBEq, reduceLeDiff, reduceToNat, reduceNe, reduceEq, reduceLT, reduceLE, Int.reduceBEq, Int.reduceBNe, e1]
  refine callC_at (cvn 9 0 (by decide) (by decide)) ?_
  simp -implicitDefEqProofs (disch := omega) only [go_sem, ↓reduceIte, reduceEqDiff, reduceMul, reduceAdd, reduceDiv, Nat.reduceBEq, reduceLeDiff, reduceToNat, reduceNe, reduceEq, reduceLT, reduceLE, Int.reduceBEq, Int.reduceBNe, e1]
  refine callC_at (cvn 10 1 (by decide) (by decide)) ?_
  simp -implicitDefEqProofs (disch := omega) only [go_sem, ↓reduceIte, reduceEqDiff, reduceMul, reduceAdd, reduceDiv, Nat.reduceBEq, reduceLeDiff, reduceToNat, reduceNe, reduceEq, reduceLT, reduceLE, Int.reduceBEq, Int.reduceBNe, e1]
  refine callC_at (cvn 20 3 (by decide) (by decide)) ?_
  simp -implicitDefEqProofs (disch := omega) only [go_sem, ↓reduceIte, reduceEqDiff, reduceMul, reduceAdd, reduceDiv, Nat.reduceBEq, reduceLeDiff, reduceToNat, reduceNe, reduceEq, reduceLT, reduceLE, Int.reduceBEq, Int.reduceBNe, e1]
  refine callC_at (ckn 25 5 3 3 (by decide) (by decide) (by decide) (by decide)) ?_
  simp -implicitDefEqProofs (disch := omega) only [go_sem, ↓reduceIte, reduceEqDiff, reduceMul, reduceAdd, reduceDiv, Nat.reduceBEq, reduceLeDiff, reduceToNat, reduceNe, reduceEq, reduceLT, reduceLE, Int.reduceBEq, Int.reduceBNe, e1]
  refine callC_at (ckn 25 6 1 3 (by decide) (by decide) (by decide) (by decide)) ?_
  simp -implicitDefEqProofs (disch := omega) only [go_sem, ↓reduceIte, reduceEqDiff, reduceMul, reduceAdd, reduceDiv, Nat.reduceBEq, reduceLeDiff, reduceToNat, reduceNe, reduceEq, reduceLT, reduceLE, Int.reduceBEq, Int.reduceBNe, e1]
  refine callC_at cbw ?_
  simp -implicitDefEqProofs (disch := omega) only [go_sem, ↓reduceIte, reduceEqDiff, reduceMul, reduceAdd, reduceDiv, Nat.reduceBEq, reduceLeDiff, reduceToNat, reduceNe, reduceEq, reduceLT, reduceLE, Int.reduceBEq, Int.reduceBNe, e1]
  refine callC_at cdf ?_
  simp -implicitDefEqProofs (disch := omega) only [go_sem, ↓reduceIte, reduceEqDiff, reduceMul, reduceAdd, reduceDiv, Nat.reduceBEq, reduceLeDiff, reduceToNat, reduceNe, reduceEq, reduceLT, reduceLE, Int.reduceBEq, Int.reduceBNe, e1]
  refine callC_at cD ?_
  simp -implicitDefEqProofs (disch := omega) only [go_sem, ↓reduceIte, reduceEqDiff, reduceMul, reduceAdd, reduceDiv, Nat.reduceBEq, reduceLeDiff, reduceToNat, reduceNe, reduceEq, reduceLT, reduceLE, Int.reduceBEq, Int.reduceBNe, e1]
  refine toStr_mk (List.replicate 32 0) (by simp -implicitDefEqProofs (disch := omega) only [go_sem, ↓reduceIte, reduceEqDiff, reduceMul, reduceAdd, reduceDiv, Nat.reduceBEq, reduceLeDiff, reduceToNat, reduceNe, reduceEq, reduceLT, reduceLE, Int.reduceBEq, Int.reduceBNe]; rfl) (by intro b; simp -implicitDefEqProofs (disch := omega) only [go_sem, ↓reduceIte, reduceEqDiff, reduceMul, reduceAdd, reduceDiv, Nat.reduceBEq, reduceLeDiff, reduceToNat, reduceNe, reduceEq, reduceLT, reduceLE, Int.reduceBEq, Int.reduceBNe]; intro e; cases e) (e := 5) rfl rfl rfl ?_
  rw [z32]
  simp -implicitDefEqProofs (disch := omega) only [go_sem, ↓reduceIte, reduceEqDiff, reduceMul, reduceAdd, reduceDiv, Nat.reduceBEq, reduceLeDiff, reduceToNat, reduceNe, reduceEq, reduceLT, reduceLE, Int.reduceBEq, Int.reduceBNe, e1]
  refine callC_at cH ?_
  simp -implicitDefEqProofs (disch := omega) only [go_sem, ↓reduceIte, reduceEqDiff, reduceMul, reduceAdd, reduceDiv, Nat.reduceBEq, reduceLeDiff, reduceToNat, reduceNe, reduceEq, reduceLT, reduceLE, Int.reduceBEq, Int.reduceBNe, e1]
  refine callC_at cm4 ?_
  simp -implicitDefEqProofs (disch := omega) only [go_sem, ↓reduceIte, reduceEqDiff, reduceMul, reduceAdd, reduceDiv, Nat.reduceBEq, reduceLeDiff, reduceToNat, reduceNe, reduceEq, reduceLT, reduceLE, Int.reduceBEq, Int.reduceBNe, e1]
  refine callC_at (sameI_ev [-1, 1, 2] [-1, 1, 2] (by decide) (by decide)) ?_
  simp -implicitDefEqProofs (disch := omega) only [go_sem, ↓reduceIte, reduceEqDiff, reduceMul, reduceAdd, reduceDiv, Nat.reduceBEq, reduceLeDiff, reduceToNat, reduceNe, reduceEq, reduceLT, reduceLE, Int.reduceBEq, Int.reduceBNe, e1]
  refine callC_at (sameR_ev [(150, 300)] [(150, 300)] (by decide) (by decide)) ?_
  simp -implicitDefEqProofs (disch := omega) only [go_sem, ↓reduceIte, reduceEqDiff, reduceMul, reduceAdd, reduceDiv, Nat.reduceBEq, reduceLeDiff, reduceToNat, reduceNe, reduceEq, reduceLT, reduceLE, Int.reduceBEq, Int.reduceBNe, e1]
  refine branch_l (by omega) ?_
  simp -implicitDefEqProofs (disch := omega) only [go_sem, ↓reduceIte, reduceEqDiff, reduceMul, reduceAdd, reduceDiv, Nat.reduceBEq, reduceLeDiff, reduceToNat, reduceNe, reduceEq, reduceLT, reduceLE, Int.reduceBEq, Int.reduceBNe, e1]
  refine callC_at cgood ?_
  simp -implicitDefEqProofs (disch := omega) only [go_sem, ↓reduceIte, reduceEqDiff, reduceMul, reduceAdd, reduceDiv, Nat.reduceBEq, reduceLeDiff, reduceToNat, reduceNe, reduceEq, reduceLT, reduceLE, Int.reduceBEq, Int.reduceBNe, e1, hsz]
  refine callC_at cbad ?_
  simp -implicitDefEqProofs (disch := omega) only [go_sem, ↓reduceIte, reduceEqDiff, reduceMul, reduceAdd, reduceDiv, Nat.reduceBEq, reduceLeDiff, reduceToNat, reduceNe, reduceEq, reduceLT, reduceLE, Int.reduceBEq, Int.reduceBNe, Tryd.results11]
end Go.Proofs.YthkihocapdfonaaDoor
set_option maxRecDepth 100000
namespace Go.Proofs.YthkihocapdfonaaDoor
open Go.Vai Go Go.Proofs
open Nat (reduceEqDiff reduceMul reduceAdd reduceDiv reduceLeDiff)
open Int (reduceToNat reduceNe reduceEq reduceLT reduceLE)
section
variable {l : List Up} (h : validT l = true)
include h
theorem len40 : l.length ≤ 40 := (validT_iff.1 h).1
theorem map_at {v : Nat} (hv : v ≤ l.length) : Ev Tryd.prog 13 [UPS l, I v] (.tup [BL (mapV l v), I 0]) := by
  have hm := map_ev l v (by have := len40 h; omega)
  have e : inV l v := ⟨h, by omega, by omega⟩
  rw [if_pos e, if_pos e, Int.toNat_natCast] at hm
  exact hm
theorem map_no {v : Int} (hv : ¬ (0 ≤ v ∧ v ≤ l.length)) : Ev Tryd.prog 13 [UPS l, I v] (.tup [BL [], I 230]) := by
  have hm := map_ev l v (by have := len40 h; omega)
  have e : ¬ inV l v := fun h' => hv h'.2
  rw [if_neg e, if_neg e] at hm
  exact hm
theorem held_at {v : Nat} (hv : v ≤ l.length) {n : Int} (hn : inN n) : Ev Tryd.prog 21 [UPS l, I n, I v] (.tup [I (heldV l n v), I 0]) := by
  have hm := held_ev l n v (by have := len40 h; omega)
  have e : inV l v ∧ 0 ≤ n ∧ n ≤ 99999999 := ⟨⟨h, by omega, by omega⟩, hn⟩
  rw [if_pos e, if_pos e, Int.toNat_natCast] at hm
  exact hm
theorem since_at {v : Nat} (hv : v ≤ l.length) {n : Int} (hn : inN n) : Ev Tryd.prog 23 [UPS l, I n, I v] (.tup [I (sinF l n v : Nat), I 0]) := by
  have hm := since_ev l n v (by have := len40 h; omega)
  have e : inV l v ∧ inN n := ⟨⟨h, by omega, by omega⟩, hn⟩
  rw [if_pos e, if_pos e, Int.toNat_natCast] at hm
  exact hm
theorem head_at {v : Nat} (hv : v ≤ l.length) : Ev Tryd.prog 29 [UPS l, I v] (.tup [Str (headN l v), I 0]) := by
  have hm := head_ev l v (by have := len40 h; omega)
  have e : inV l v := ⟨h, by omega, by omega⟩
  rw [if_pos e, if_pos e, Int.toNat_natCast] at hm
  exact hm
theorem between_at {a b : Nat} (hab : a ≤ b) (hb : b ≤ l.length) {n : Int} (hn : inN n) : Ev Tryd.prog 24 [UPS l, I n, I a, I b] (.tup [SL (betF l n a b), I 0]) := by
  have hm := between_ev l n a b (by have := len40 h; omega)
  have e : inB l n a b := ⟨⟨h, hn⟩, ⟨by omega, by omega⟩, by omega⟩
  rw [if_pos e, if_pos e, Int.toNat_natCast, Int.toNat_natCast] at hm
  exact hm
theorem between_no {a b : Nat} (hab : ¬ a ≤ b) {n : Int} : Ev Tryd.prog 24 [UPS l, I n, I a, I b] (.tup [SL [], I 230]) := by
  have hm := between_ev l n a b (by have := len40 h; omega)
  have e : ¬ inB l n a b := fun h' => hab (by have := h'.2.1; omega)
  rw [if_neg e, if_neg e] at hm
  exact hm
theorem known_at {t lag : Int} (ht : 0 ≤ t ∧ t ≤ 10000000) (hg : 0 ≤ lag ∧ lag ≤ 100000) : Ev Tryd.prog 25 [UPS l, I t, I lag] (.tup [I (atF l (t - lag) : Nat), I (atF l t : Nat), I 0]) := by
  have hm := known_ev l t lag (by have := len40 h; omega)
  have e : inT l t lag := ⟨ht, hg, h⟩
  rw [if_pos e, if_pos e, if_pos e] at hm
  exact hm
theorem version_at {t : Int} (ht : 0 ≤ t ∧ t ≤ 10000000) : Ev Tryd.prog 26 [UPS l, I t] (.tup [I (atF l t : Nat), I 0]) := by
  have hm := version_ev l t (by have := len40 h; omega)
  have e : inT l t 0 := ⟨ht, by decide, h⟩
  rw [if_pos e, if_pos e] at hm
  exact hm
theorem differ_at {v w : Nat} (hv : v ≤ l.length) (hw : w ≤ l.length) : Ev Tryd.prog 27 [UPS l, I v, I w] (.tup [RL (difF (mapV l v) (mapV l w)), I 0]) := by
  have hm := tdiffer_ev l v w (by have := len40 h; omega)
  have e : inV l v ∧ inV l w := ⟨⟨h, by omega, by omega⟩, ⟨h, by omega, by omega⟩⟩
  rw [if_pos e, if_pos e, Int.toNat_natCast, Int.toNat_natCast] at hm
  exact hm
theorem compact_at : Ev Tryd.prog 30 [UPS l] (.tup [UPS (compT l), I 0]) := by
  have hm := compact_ev l (by have := len40 h; omega)
  rw [if_pos h, if_pos h] at hm
  exact hm
theorem valid_at : Ev Tryd.prog 15 [UPS l] (B true) := by
  have hm := tvalid_ev l (by have := len40 h; omega)
  rw [h] at hm
  exact hm
theorem map_ok {v : Nat} (hv : v ≤ l.length) : validB (mapV l v) = true := (mapV_spec h hv).1
end
theorem pickV (l : List Up) (c : Int) (hl : l.length ≤ 40) (hc : R64 c) : ∃ v : Nat, v ≤ l.length ∧ pickF c ((l.length : Int) + 1) = v ∧ Ev Tryd.prog 14 [I c, I ((l.length : Int) + 1)] (I (v : Nat)) := by
  have h := pickF_in (c := c) (n := (l.length : Int) + 1) (by omega)
  have e := pick_ev c ((l.length : Int) + 1) hc (by omega)
  refine ⟨(pickF c ((l.length : Int) + 1)).toNat, by omega, by omega, ?_⟩
  rw [show (((pickF c ((l.length : Int) + 1)).toNat : Nat) : Int) = pickF c ((l.length : Int) + 1) from by omega]
  exact e
end Go.Proofs.YthkihocapdfonaaDoor
set_option maxRecDepth 100000
namespace Go.Vai
open Go.RowKit Go.ChangeShapes Go.WideShapes
theorem liftedG {H : Type} {enc : TypeId × Value → H} {C : Checked} {os : Os} {f : FuncId} {fn : Func} {s : ChangeSpec} {conds : List PathCond} {fresh handsOn : Bool} {tb : TypeId} {ps : List (AV → Prop)} {X : World → Array Value → Prop}
    (hX : ∀ (w w' : World) (args : Array Value), w.heap = w'.heap → X w args → X w' args)
    (own : ownKnob C.prog.godebug = none) (started : os.Started) (noInit : C.prog.inits.idxOf? f = none) (hfn : C.prog.funcs[f]? = some fn)
    (witness : ∃ (w : World) (tape : Tape) (i : Input), w.os = os ∧ (w.forCall tape i).Shaped C.prog ∧ i.vars = [] ∧ Input.okWide C.prog (w.forCall tape i) .any w.heap.size f i ∧
      ((s.pre enc C.prog fn conds false (w.forCall tape i).memory i.args ∧ X (w.forCall tape i).memory i.args) ∧ sizedMet enc C.prog fn (OpenSpec.ofChange s) false (w.forCall tape i).memory i.args) ∧ ({} : Assume).holds C.prog (lone (Frame.enter C.prog f i.args .normal) [] (w.forCall tape i)))
    (hl : laidOutB C.prog = true) (hr : (fn.params.toList.all fun t => C.prog.readableRec t && decide (t < C.prog.types.size)) = true) (hrt : fn.resultTypes = #[tb]) (htb : C.prog.underlying tb = some .bool) (hvars : s.vars = [])
    (hs : ∀ ds : List (DataW H), ds.length = fn.params.size → s.fn H ds = { results := [.lit (.bool true)], args := ds })
    (hop : ∀ w : World, OpensAll C.prog enc w fn.params.toList ps) (hev : ∀ avs, AllP ps avs → Ev C.prog f avs (.v (.bool true))) (hgt : ∀ (w : World) (args : Array Value), X w args → GOK w (Here w)) :
    ReturnsInHanded {} C os f .any (fun w args => (s.pre enc C.prog fn conds false w args ∧ X w args) ∧ sizedMet enc C.prog fn (OpenSpec.ofChange s) false w args) (s.post enc C.prog fn false fresh handsOn false) := by
  refine returnsInHanded_of_change_and (C := C) (X := X) hX own started noInit hfn witness ?_
  intro W base args ds gs before hval hW _ _ hL _
  obtain ⟨p, q, hA, hV, e, hfz, hnd⟩ := hW
  obtain ⟨avs, has, hrep⟩ := opens_args (hop W) hA (fun j t v hj hv => hval j t v (by simpa using hj) (by simpa using hv))
  have := (hev avs has avs _ ⟨rfl, rfl⟩).2 W (Here W) args.toList (fun b hb => hb) (hgt W args hL) hrep
  refine (this.mono ?_)
  rintro e' W' ⟨y, rfl, hx, Im', _, _, hR⟩
  obtain ⟨ob, h1, _⟩ := hR
  have hy : y = .bool true := by
    unfold R1 at h1
    cases h1.2 with | v => rfl
  subst hy
  exact ⟨_, rfl, post_true hl (fun t ht => by simpa using List.all_eq_true.1 hr t ht) hrt htb hvars hs ⟨p, q, hA, hV, e, hfz, hnd⟩ hx⟩
end Go.Vai
namespace Go.Proofs.YthkihocapdfonaaDoor
open Go.Vai Go Go.Proofs Go.RowKit
open Nat (reduceEqDiff reduceMul reduceAdd reduceDiv reduceLeDiff)
open Int (reduceToNat reduceNe reduceEq reduceLT reduceLE)
theorem own3 : ownKnob Tryd.checked.prog.godebug = none := by kernel_rfl
theorem laidOut3 : laidOutB Tryd.checked.prog = true := by kernel_rfl
abbrev laid3 : List (String × DataW Unit) := [("dialtone/digest.round", Rows.laid_dialtone_digest_round)]
theorem gRound : Tryd.prog.globalNamed "dialtone/digest.round" = some 0 := by kernel_rfl
def roundL : List Int := (gtab.headD (0, [])).2.map fun v => match v with | .int _ n => n | _ => 0
theorem gtab_eq : gtab = [(0, roundL.map (Value.int .u32))] := by kernel_rfl
theorem laid_eq : (Rows.laid_dialtone_digest_round : DataW Unit) = .agg (roundL.map fun n => .lit (.int .u32 n)) := by kernel_rfl
theorem round_cells {W : World} (h : laidMetH Tryd.prog laid3 W) : ∀ (i : Nat) (v : Value), (roundL.map (Value.int .u32))[i]? = some v → W.cell? ⟨0, i, none⟩ = some v := by
  rw [MakeChecks.laidMetH_plain _ _ _ (by kernel_rfl)] at h
  obtain ⟨ps, ⟨g0, t0, cs0, f0, p0, q0, hg0, ht0, hv0, hd0, _, _⟩, _, _⟩ := h
  obtain rfl := Option.some.inj (gRound.symm.trans hg0)
  have tR : (Tryd.prog.globals[0]?).map (·.type) = some t0 := ht0
  intro i v hv
  rw [World.var?_cell hg0 hv0 i]
  have t79 : t0 = 152 := by
    have : (Tryd.prog.globals[0]?).map (·.type) = some 152 := by kernel_rfl
    exact Option.some.inj (tR.symm.trans this)
  subst t79
  obtain ⟨xs, m1, rfl, hx1, hlen, hn, hel⟩ := DataW.trod_array (n := 64) (e := 122) (by kernel_rfl) hd0
  have c1 : Tryd.prog.cellsOf 122 = 1 := by kernel_rfl
  simp only [Prod.mk.injEq] at hx1
  have hx := hx1.1
  rw [laid_eq] at hx
  simp only [DataW.agg.injEq] at hx
  have hrl : roundL.length = 64 := by kernel_rfl
  have hi : i < 64 := by
    have := (List.getElem?_eq_some_iff.1 hv).1
    rw [List.length_map, hrl] at this; exact this
  have h1 := hel i hi
  rw [c1, Nat.mul_one] at h1
  cases hxi : xs[i]? with
  | none => rw [List.getElem?_eq_none_iff] at hxi; omega
  | some x =>
    rw [hxi] at h1
    obtain ⟨n, e1, e2, _⟩ := DataW.trod_int (k := .u32) (by kernel_rfl) h1
    have h2 : (xs.map (·.1))[i]? = some x.1 := by rw [List.getElem?_map, hxi]; rfl
    rw [← hx, List.getElem?_map] at h2
    obtain ⟨r, hr, hr2⟩ := Option.map_eq_some_iff.1 h2
    rw [List.getElem?_map, hr] at hv
    have hv := Option.some.inj hv
    rw [e2] at hr2
    simp only [DataW.lit.injEq, Lit.int.injEq, true_and] at hr2
    have h3 : (cs0.toList.drop i)[0]? = some (.int .u32 n) := by
      have : ((cs0.toList.drop i).take 1)[0]? = some (.int .u32 n) := by rw [e1]; rfl
      rwa [List.getElem?_take, if_pos (by omega)] at this
    rw [List.getElem?_drop, Nat.add_zero] at h3
    rw [← Array.getElem?_toList, h3, ← hv, hr2]
theorem gok {W : World} (h : laidMetH Tryd.prog laid3 W) : GOK W (Here W) := by
  intro p hp
  rw [gtab_eq, List.mem_singleton] at hp
  subst hp
  have hc := round_cells h
  refine ⟨?_, fun i v hv => ⟨hc i v hv, ?_⟩⟩
  · have h0 : (roundL.map (Value.int .u32))[0]? = some (.int .u32 (gd roundL 0)) := by kernel_rfl
    have := hc 0 _ h0
    show 0 < W.heap.size
    rcases Nat.eq_zero_or_pos W.heap.size with h1 | h1
    · have : W.heap[0]? = none := Array.getElem?_eq_none (by omega)
      simp [World.cell?, this] at *
    · exact h1
  · obtain ⟨r, _, rfl⟩ := List.mem_map.1 (List.mem_of_getElem? hv)
    rfl
theorem door_met (os : Os) (args : Array Value) : laidMetH Tryd.prog laid3 ((World.doorLaid Tryd.prog 14 os).forCall (fun _ _ => 0) ⟨#[], args, []⟩).memory :=
  laidMetH_of_parts3 (fuel := 8) (laidMet_of_run' 8 (by kernel_rfl) (by kernel_rfl)) (by kernel_rfl) (by kernel_rfl)
section
variable {H : Type} {enc : TypeId × Value → H} {w : World}
def OI (a : AV) : Prop := ∃ n, R64 n ∧ a = I n
theorem wf64 {n : Int} : (Lit.int .i64 n).wf = true ↔ R64 n := by
  have h1 : IntKind.i64.min = -9223372036854775808 := by decide
  have h2 : IntKind.i64.max = 9223372036854775807 := by decide
  simp [Lit.wf, R64, h1, h2]
theorem o_int {t : TypeId} (ht : Tryd.prog.underlying t = some (.int .i64)) : Opens Tryd.prog enc w t OI :=
  (opens_int ht).mono (fun a ⟨n, h, e⟩ => ⟨n, wf64.1 h, e⟩) fun a ⟨n, h, e⟩ => ⟨n, wf64.2 h, e⟩
def OQ (a : AV) : Prop := ∃ l : List Q4, l.length ≤ 9223372036854775807 ∧ (∀ x ∈ l, x.ok) ∧ a = QL l
def OQ1 (a : AV) : Prop := ∃ x : Q4, x.ok ∧ a = QP x
theorem o_four : Opens Tryd.prog enc w 73 OQ1 :=
  (opens_array (T := Int) (q := R64) (f := I) (e := 3) (n := 4) (sz := 1) (by kernel_rfl) (by kernel_rfl) (by kernel_rfl) (o_int (by kernel_rfl))).mono
    (fun a ⟨l, h, h1, e⟩ => by
      match l, h with
      | [x, y, z, u], _ => exact ⟨⟨x, y, z, u⟩, ⟨h1 x (by simp), h1 y (by simp), h1 z (by simp), h1 u (by simp)⟩, e⟩)
    fun a ⟨x, h, e⟩ => ⟨[x.a, x.b, x.c, x.d], rfl, by obtain ⟨h1, h2, h3, h4⟩ := h; simp [h1, h2, h3, h4], e⟩
theorem o_fours : Opens Tryd.prog enc w 22 OQ :=
  (opens_slice (T := Q4) (q := Q4.ok) (f := QP) (e := 73) (sz := 4) (by kernel_rfl) (by kernel_rfl) (by decide) o_four).mono
    (fun a ⟨l, h, h1, e⟩ => ⟨l, h, h1, e⟩) fun a ⟨l, h, h1, e⟩ => ⟨l, h, h1, e⟩
end
end Go.Proofs.YthkihocapdfonaaDoor

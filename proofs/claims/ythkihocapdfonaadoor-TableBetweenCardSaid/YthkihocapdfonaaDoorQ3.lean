/- Chapter 23, TableBetween: who held a number between two versions. Conditions: the package variable digest.round reads as the program's text lays it (tied). -/
import Derived.Test.YthkihocapdfonaaDoorKH
set_option linter.unusedVariables false
set_option linter.unusedSimpArgs false
set_option maxRecDepth 100000
namespace Go.Proofs.YthkihocapdfonaaDoor
open Go.Vai Go Go.Proofs
theorem branch_join {S : Sp} [hp : Plain S] {c : Prop} {a1 a2 b : Code} {Q : Exit → Env → Store → Prop} {E E' : Env} {σ : Store} (J : Env → Store → Prop) (h1 : c → awpC S a1 (thenQ J Q) E σ) (h2 : ¬ c → awpC S a2 (thenQ J Q) E' σ) (h3 : ∀ E σ, J E σ → awpC S b Q E σ) :
    branch c (awpC S a1 (thenQ (awpC S b Q) Q)) E (awpC S a2 (thenQ (awpC S b Q) Q)) E' σ :=
  ⟨fun e => awpC_mono hp.mono a1 (thenQ_mono h3 fun _ _ _ h => h) (h1 e), fun e => awpC_mono hp.mono a2 (thenQ_mono h3 fun _ _ _ h => h) (h2 e)⟩
open Nat (reduceEqDiff reduceMul reduceAdd reduceDiv reduceLeDiff)
open Int (reduceToNat reduceNe reduceEq reduceLT reduceLE)
theorem filter_take_succ (p : Int → Bool) : ∀ (l : List Int) (k : Nat), k < l.length → ((l.take (k + 1)).filter p).length = ((l.take k).filter p).length + if p (gd l k) then 1 else 0
  | [], _, h => absurd h (by simp)
  | x :: l, 0, _ => by by_cases hp : p x = true <;> simp [gd, hp]
  | x :: l, k + 1, h => by
    have ih := filter_take_succ p l k (by simpa using h)
    have e : gd (x :: l) (k + 1) = gd l k := rfl
    rw [e, List.take_succ_cons, List.take_succ_cons, List.filter_cons, List.filter_cons]
    by_cases hx : p x = true
    · rw [if_pos hx, if_pos hx, List.length_cons, List.length_cons, ih]; omega
    · rw [if_neg hx, if_neg hx, ih]
theorem filter_at (p : Int → Bool) : ∀ (l : List Int) (k : Nat), k < l.length → p (gd l k) = true → ((l.take k).filter p).length < (l.filter p).length ∧ gd (l.filter p) ((l.take k).filter p).length = gd l k
  | [], _, h, _ => absurd h (by simp)
  | x :: l, 0, _, hp => by
    have e : gd (x :: l) 0 = x := rfl
    rw [e] at hp
    rw [List.filter_cons, if_pos hp]
    exact ⟨by simp, rfl⟩
  | x :: l, k + 1, h, hp => by
    have e : gd (x :: l) (k + 1) = gd l k := rfl
    rw [e] at hp ⊢
    have ih := filter_at p l k (by simpa using h) hp
    rw [List.take_succ_cons, List.filter_cons, List.filter_cons]
    by_cases hx : p x = true
    · rw [if_pos hx, if_pos hx, List.length_cons, List.length_cons]
      exact ⟨by omega, ih.2⟩
    · rw [if_neg hx, if_neg hx]; exact ih
def nb (l : List Up) (n : Int) (a b k : Nat) : Nat := ((crs.take k).filter (anyV l n a b)).length
theorem nb_zero (l : List Up) (n : Int) (a b : Nat) : nb l n a b 0 = 0 := rfl
theorem nb_nine (l : List Up) (n : Int) (a b : Nat) : nb l n a b 9 = (betF l n a b).length := rfl
theorem gd_crs {k : Nat} (h : k < 9) : gd crs k = (k : Int) - 1 := by
  rcases k with _ | _ | _ | _ | _ | _ | _ | _ | _ | k <;> first | rfl | omega
theorem nb_yes {l : List Up} {n : Int} {a b k : Nat} (hk : k < 9) (h : anyV l n a b ((k : Int) - 1) = true) : nb l n a b k < (betF l n a b).length ∧ gd (betF l n a b) (nb l n a b k) = (k : Int) - 1 ∧ nb l n a b (k + 1) = nb l n a b k + 1 := by
  rw [← gd_crs hk] at h ⊢
  refine ⟨(filter_at _ crs k hk h).1, (filter_at _ crs k hk h).2, ?_⟩
  unfold nb
  rw [filter_take_succ _ crs k hk, if_pos h]
theorem nb_no {l : List Up} {n : Int} {a b k : Nat} (hk : k < 9) (h : anyV l n a b ((k : Int) - 1) = false) : nb l n a b (k + 1) = nb l n a b k := by
  rw [← gd_crs hk] at h
  unfold nb
  rw [filter_take_succ _ crs k hk, h, if_neg (by decide)]; rfl
theorem nb_le (l : List Up) (n : Int) (a b k : Nat) : nb l n a b k ≤ 9 := by
  unfold nb
  refine Nat.le_trans (List.length_filter_le _ _) ?_
  rw [List.length_take]
  exact Nat.min_le_right _ _
theorem betF_one {l : List Up} (hv : validT l = true) {n : Int} {a b : Nat} (hab : a ≤ b) (hb : b ≤ l.length) (h : (betF l n a b).length = 1) : sinF l n b ≤ a := by
  obtain ⟨s1, s2, s3⟩ := sinF_spec l n b
  obtain ⟨c, hc⟩ : ∃ c, betF l n a b = [c] := List.length_eq_one_iff.1 h
  have all : ∀ v, a ≤ v → v ≤ b → heldV l n v = c := fun v h1 h2 => by
    have := (betF_mem hv hb (heldV l n v)).2 ⟨v, h1, h2, rfl⟩
    rw [hc] at this
    exact List.mem_singleton.1 this
  refine Decidable.byContradiction fun hlt => ?_
  rcases s3 with h0 | hne
  · omega
  · exact hne (by rw [all _ (by omega) (by omega), all b hab (Nat.le_refl _)])
theorem betF_pos {l : List Up} (hv : validT l = true) {n : Int} {a b : Nat} (hab : a ≤ b) (hb : b ≤ l.length) : 0 < (betF l n a b).length :=
  List.length_pos_of_mem ((betF_mem hv hb (heldV l n a)).2 ⟨a, Nat.le_refl _, hab, rfl⟩)
def seen (l : List Up) (n : Int) (a i : Nat) : List Bool := (List.range 9).map fun (k : Nat) => decide (a < i) && anyV l n a (i - 1) ((k : Int) - 1)
theorem seen_start (l : List Up) (n : Int) (a : Nat) : seen l n a a = List.replicate 9 false := by
  unfold seen; rw [show decide (a < a) = false by simp]; simp [List.range_succ, List.replicate]
theorem seen_succ {l : List Up} (hv : validT l = true) (n : Int) {a i : Nat} (hi : i ≤ l.length) (hai : a ≤ i) : seen l n a (i + 1) = (seen l n a i).set (heldV l n i + 1).toNat true := by
  refine List.ext_getElem (by simp [seen]) fun k h1 h2 => ?_
  have hk : k < 9 := by simpa [seen] using h1
  have hin := heldV_in hv n hi
  rw [List.getElem_set]
  simp only [seen, List.getElem_map, List.getElem_range]
  have e0 : decide (a < i + 1) = true := by simp; omega
  rw [e0, Bool.true_and, Nat.add_sub_cancel]
  by_cases hc : (heldV l n i + 1).toNat = k
  · rw [if_pos hc]
    refine anyV_iff.2 ⟨i, hai, Nat.le_refl _, ?_⟩
    rcases hin with h | h
    · omega
    · obtain ⟨h3, h4⟩ := h; omega
  · rw [if_neg hc]
    refine Bool.eq_iff_iff.2 ?_
    rw [Bool.and_eq_true, anyV_iff, anyV_iff, decide_eq_true_iff]
    constructor
    · rintro ⟨v, h3, h4, h5⟩
      by_cases hvi : v = i
      · subst hvi; exact absurd (by omega) hc
      · exact ⟨by omega, v, h3, by omega, h5⟩
    · rintro ⟨h3, v, h4, h5, h6⟩
      exact ⟨v, h4, by omega, h6⟩
theorem seen_at (l : List Up) (n : Int) {a i k : Nat} (hk : k < 9) (hai : a < i) : (seen l n a i)[k]? = some (anyV l n a (i - 1) ((k : Int) - 1)) := by
  simp [seen, hk, hai]
theorem seen_len (l : List Up) (n : Int) (a i : Nat) : (seen l n a i).length = 9 := by simp [seen]
end Go.Proofs.YthkihocapdfonaaDoor
set_option maxRecDepth 100000
namespace Go.Proofs.YthkihocapdfonaaDoor
open Go.Vai Go Go.Proofs
open Nat (reduceEqDiff reduceMul reduceAdd reduceDiv reduceLeDiff)
open Int (reduceToNat reduceNe reduceEq reduceLT reduceLE)
@[go_sem] theorem set_bools (l : List Bool) (n : Nat) (x : Bool) : (l.map B).set n (.v (.bool x)) = (l.set n x).map B := by rw [List.map_set]
@[go_sem high] theorem setC_bools (l : List Bool) (j : Nat) (x : Bool) (hj : j < l.length) (h1 : l.length ≠ 1) : setC (.agg (l.map B)) j (B x) = .agg ((l.set j x).map B) := by
  rw [setC_eq, if_neg (by simp; omega)]
  congr 1
  simp only [AV.cells_agg, AV.cells_v, List.length_singleton, ← List.map_take, ← List.map_drop]
  rw [List.set_eq_take_append_cons_drop, if_pos hj]
  simp
@[go_sem] theorem namesL_bools (p : Nat → Bool) (l : List Bool) : AV.namesL p (l.map B) = false := namesL_map p l B fun _ => rfl
@[go_sem] theorem flatL_bools (l : List Bool) : AV.flatL (l.map B) = true := flatL_map l B fun _ => rfl
@[go_sem] theorem allOK_bools (l : List Bool) : allOK 1 (l.map B) = true := allOK_map 1 l B fun _ => ⟨rfl, rfl⟩
theorem seen_gd (l : List Up) (n : Int) {a b k : Nat} (hk : k < 9) (hab : a ≤ b) : gd (seen l n a (b + 1)) k = anyV l n a b ((k : Int) - 1) := by
  have h := seen_at l n (a := a) (i := b + 1) hk (by omega)
  rw [gd_some _ k (by rw [seen_len]; omega)] at h
  exact Option.some.inj h
set_option maxHeartbeats 2000000 in
theorem betw_ev (x : List Q4) (ai bi which number : Int) (hn : x.length ≤ 9223372036854775807) (hx : ∀ q ∈ x, q.ok) (ha : R64 ai) (hb : R64 bi) (hw : R64 which) (hnn : R64 number) : Ev Tryd.prog 5 [QL x, I ai, I bi, I which, I number] (B true) := by
  have c0 := made_ev x hx hn
  have ht := madeF_valid x
  generalize madeF x = l at *
  have h40 := len40 ht
  obtain ⟨v, hvl, _, cp⟩ := pickV l ai h40 ha
  obtain ⟨w, hwl, _, cp2⟩ := pickV l bi h40 hb
  have cn := near_ev l which number (by omega) (validT_nb ht) hw hnn
  have hin := nearF_in l which number
  generalize nearF l which number = n at *
  have cb := between_at ht (a := min v w) (b := max v w) (by omega) (by omega) hin
  have cs := since_at ht (v := max v w) (by omega) hin
  have cbn := fun h => between_no (l := l) ht (a := max v w) (b := min v w) h (n := n)
  have hpos := betF_pos ht (n := n) (a := min v w) (b := max v w) (by omega) (by omega)
  have hone := betF_one ht (n := n) (a := min v w) (b := max v w) (by omega) (by omega)
  have hsl := (sinF_spec l n (max v w)).1
  have emin : ((min v w : Nat) : Int) = min (v : Int) w := by omega
  have emax : ((max v w : Nat) : Int) = max (v : Int) w := by omega
  rw [emin, emax] at cb cbn
  rw [emax] at cs
  refine ev_of Tryd.func5 rfl (by kernel_rfl) mo (Nat.le_of_ble_eq_true rfl) ?_
  simp -implicitDefEqProofs (disch := omega) only [go_sem, ↓reduceIte, reduceEqDiff, reduceMul, reduceAdd, reduceDiv, Nat.reduceBEq, reduceLeDiff, reduceToNat, reduceNe, reduceEq, reduceLT, reduceLE, Int.reduceBEq, Int.reduceBNe, Tryd.ntmps5]
  refine callC_at sane_ev ?_
  simp -implicitDefEqProofs (disch := omega) only [go_sem, ↓reduceIte, reduceEqDiff, reduceMul, reduceAdd, reduceDiv, Nat.reduceBEq, reduceLeDiff, reduceToNat, reduceNe, reduceEq, reduceLT, reduceLE, Int.reduceBEq, Int.reduceBNe]
  refine callC_at c0 ?_
  simp -implicitDefEqProofs (disch := omega) only [go_sem, ↓reduceIte, reduceEqDiff, reduceMul, reduceAdd, reduceDiv, Nat.reduceBEq, reduceLeDiff, reduceToNat, reduceNe, reduceEq, reduceLT, reduceLE, Int.reduceBEq, Int.reduceBNe]
  refine callC_at cp ?_
  simp -implicitDefEqProofs (disch := omega) only [go_sem, ↓reduceIte, reduceEqDiff, reduceMul, reduceAdd, reduceDiv, Nat.reduceBEq, reduceLeDiff, reduceToNat, reduceNe, reduceEq, reduceLT, reduceLE, Int.reduceBEq, Int.reduceBNe]
  refine callC_at cp2 ?_
  simp -implicitDefEqProofs (disch := omega) only [go_sem, ↓reduceIte, reduceEqDiff, reduceMul, reduceAdd, reduceDiv, Nat.reduceBEq, reduceLeDiff, reduceToNat, reduceNe, reduceEq, reduceLT, reduceLE, Int.reduceBEq, Int.reduceBNe]
  refine callC_at cn ?_
  simp -implicitDefEqProofs (disch := omega) only [go_sem, ↓reduceIte, reduceEqDiff, reduceMul, reduceAdd, reduceDiv, Nat.reduceBEq, reduceLeDiff, reduceToNat, reduceNe, reduceEq, reduceLT, reduceLE, Int.reduceBEq, Int.reduceBNe]
  refine callC_at cb ?_
  simp -implicitDefEqProofs (disch := omega) only [go_sem, ↓reduceIte, reduceEqDiff, reduceMul, reduceAdd, reduceDiv, Nat.reduceBEq, reduceLeDiff, reduceToNat, reduceNe, reduceEq, reduceLT, reduceLE, Int.reduceBEq, Int.reduceBNe]
  generalize hlo : min v w = lo at *
  generalize hhi : max v w = hi at *
  generalize hwho : betF l n lo hi = who at *
  refine branch_join (fun E σ => E 11 = UPS l ∧ E 12 = I v ∧ E 13 = I w ∧ E 14 = I n ∧ E 15 = SL who ∧ E 16 = I 0) (fun hne => ?_) (fun hne => ?_) ?_
  · simp -implicitDefEqProofs (disch := omega) only [go_sem, ↓reduceIte, reduceEqDiff, reduceMul, reduceAdd, reduceDiv, Nat.reduceBEq, reduceLeDiff, reduceToNat, reduceNe, reduceEq, reduceLT, reduceLE, Int.reduceBEq, Int.reduceBNe]
    refine callC_at (cbn (by omega)) ?_
    simp -implicitDefEqProofs (disch := omega) only [go_sem, ↓reduceIte, reduceEqDiff, reduceMul, reduceAdd, reduceDiv, Nat.reduceBEq, reduceLeDiff, reduceToNat, reduceNe, reduceEq, reduceLT, reduceLE, Int.reduceBEq, Int.reduceBNe]
  · simp -implicitDefEqProofs (disch := omega) only [go_sem, ↓reduceIte, reduceEqDiff, reduceMul, reduceAdd, reduceDiv, Nat.reduceBEq, reduceLeDiff, reduceToNat, reduceNe, reduceEq, reduceLT, reduceLE, Int.reduceBEq, Int.reduceBNe]
  rintro E σ ⟨e11, e12, e13, e14, e15, e16⟩
  have hz : ((who.length : Int) = 0) = False := eq_false (by omega)
  simp -implicitDefEqProofs (disch := omega) only [go_sem, ↓reduceIte, reduceEqDiff, reduceMul, reduceAdd, reduceDiv, Nat.reduceBEq, reduceLeDiff, reduceToNat, reduceNe, reduceEq, reduceLT, reduceLE, Int.reduceBEq, Int.reduceBNe, e11, e12, e13, e14, e15, e16, hz]
  refine loopC_mk (fun k E σ => ∃ i : Nat, i + k = hi + 1 ∧ lo ≤ i ∧ E 11 = UPS l ∧ E 12 = I v ∧ E 13 = I w ∧ E 14 = I n ∧ E 15 = SL who ∧ E 16 = I 0 ∧ E 19 = .ptr 12583216 9 0 0 ∧ σ 12583216 = some ⟨50, 9, [.agg ((seen l n lo i).map B)]⟩ ∧ E 20 = I i) (hi + 1 - lo) ⟨lo, by omega, by omega, ?_⟩ ?_
  · have eml : min (v : Int) w = lo := by omega
    simp -implicitDefEqProofs (disch := omega) only [go_sem, ↓reduceIte, reduceEqDiff, reduceMul, reduceAdd, reduceDiv, Nat.reduceBEq, reduceLeDiff, reduceToNat, reduceNe, reduceEq, reduceLT, reduceLE, Int.reduceBEq, Int.reduceBNe, seen_start, eml, e11, e12, e13, e14, e15, e16]
    simp [List.replicate]
  clear e11 e12 e13 e14 e15 e16 E σ
  rintro k E σ ⟨i, hk, hli, e11, e12, e13, e14, e15, e16, e19, s19, e20⟩
  simp -implicitDefEqProofs (disch := omega) only [go_sem, ↓reduceIte, reduceEqDiff, reduceMul, reduceAdd, reduceDiv, Nat.reduceBEq, reduceLeDiff, reduceToNat, reduceNe, reduceEq, reduceLT, reduceLE, Int.reduceBEq, Int.reduceBNe, e11, e12, e13, e14, e15, e16, e19, s19, e20]
  refine branch_mk (fun hc => ?_) (fun hc => ?_)
  · have ch := held_at ht (v := i) (by omega) hin
    have hs := seen_succ ht n (a := lo) (i := i) (by omega) hli
    have hw2 := heldV_in ht n (v := i) (by omega)
    generalize heldV l n i = c at *
    simp -implicitDefEqProofs (disch := omega) only [go_sem, ↓reduceIte, reduceEqDiff, reduceMul, reduceAdd, reduceDiv, Nat.reduceBEq, reduceLeDiff, reduceToNat, reduceNe, reduceEq, reduceLT, reduceLE, Int.reduceBEq, Int.reduceBNe, e11, e12, e13, e14, e15, e16, e19, s19, e20]
    refine callC_at ch ?_
    simp -implicitDefEqProofs (disch := omega) only [go_sem, ↓reduceIte, reduceEqDiff, reduceMul, reduceAdd, reduceDiv, Nat.reduceBEq, reduceLeDiff, reduceToNat, reduceNe, reduceEq, reduceLT, reduceLE, Int.reduceBEq, Int.reduceBNe, e11, e12, e13, e14, e15, e16, e19, s19, e20]
    have hcr : -1 ≤ c ∧ c ≤ 7 := by
      rcases hw2 with h | ⟨h3, h4⟩ <;> omega
    refine branch_r (by omega) ?_
    simp -implicitDefEqProofs (disch := omega) only [go_sem, ↓reduceIte, reduceEqDiff, reduceMul, reduceAdd, reduceDiv, Nat.reduceBEq, reduceLeDiff, reduceToNat, reduceNe, reduceEq, reduceLT, reduceLE, Int.reduceBEq, Int.reduceBNe, e11, e12, e13, e14, e15, e16, e19, s19, e20]
    refine branch_r (by omega) ?_
    simp -implicitDefEqProofs (disch := omega) only [go_sem, ↓reduceIte, reduceEqDiff, reduceMul, reduceAdd, reduceDiv, Nat.reduceBEq, reduceLeDiff, reduceToNat, reduceNe, reduceEq, reduceLT, reduceLE, Int.reduceBEq, Int.reduceBNe, e11, e12, e13, e14, e15, e16, e19, s19, e20]
    have hl9 := seen_len l n lo i
    have hlt : (c + 1).toNat < (seen l n lo i).length := by omega
    simp -implicitDefEqProofs (disch := omega) only [go_sem, ↓reduceIte, reduceEqDiff, reduceMul, reduceAdd, reduceDiv, Nat.reduceBEq, reduceLeDiff, reduceToNat, reduceNe, reduceEq, reduceLT, reduceLE, Int.reduceBEq, Int.reduceBNe, e11, e12, e13, e14, e15, e16, e19, s19, e20, hl9]
    refine againQ_mk (hi + 1 - (i + 1)) (by omega) ⟨i + 1, by omega, by omega, ?_⟩
    simp -implicitDefEqProofs (disch := omega) only [go_sem, ↓reduceIte, reduceEqDiff, reduceMul, reduceAdd, reduceDiv, Nat.reduceBEq, reduceLeDiff, reduceToNat, reduceNe, reduceEq, reduceLT, reduceLE, Int.reduceBEq, Int.reduceBNe, e11, e12, e13, e14, e15, e16, e19, s19, e20, hs]
    refine ⟨?_, rfl⟩
    rw [List.set_eq_take_append_cons_drop, if_pos hlt]
    simp
  · obtain rfl : i = hi + 1 := by omega
    have hgd := fun k hk => seen_gd l n (a := lo) (b := hi) (k := k) hk (by omega)
    have hl9 := seen_len l n lo (hi + 1)
    generalize seen l n lo (hi + 1) = g at *
    simp -implicitDefEqProofs (disch := omega) only [go_sem, ↓reduceIte, reduceEqDiff, reduceMul, reduceAdd, reduceDiv, Nat.reduceBEq, reduceLeDiff, reduceToNat, reduceNe, reduceEq, reduceLT, reduceLE, Int.reduceBEq, Int.reduceBNe, e11, e12, e13, e14, e15, e16, e19, s19, e20]
    refine loopC_mk (fun k E σ => ∃ j : Nat, j + k = 9 ∧ E 11 = UPS l ∧ E 12 = I v ∧ E 13 = I w ∧ E 14 = I n ∧ E 15 = SL who ∧ E 16 = I 0 ∧ E 19 = .ptr 12583216 9 0 0 ∧ σ 12583216 = some ⟨50, 9, [.agg (g.map B)]⟩ ∧ E 23 = I (nb l n lo hi j) ∧ E 24 = I ((j : Int) - 1)) 9 ⟨0, by omega, ?_⟩ ?_
    · simp -implicitDefEqProofs (disch := omega) only [go_sem, ↓reduceIte, reduceEqDiff, reduceMul, reduceAdd, reduceDiv, Nat.reduceBEq, reduceLeDiff, reduceToNat, reduceNe, reduceEq, reduceLT, reduceLE, Int.reduceBEq, Int.reduceBNe, e11, e12, e13, e14, e15, e16, e19, s19, e20, nb_zero]
      exact ⟨rfl, rfl⟩
    clear e11 e12 e13 e14 e15 e16 e19 s19 e20 E σ hk
    rintro k E σ ⟨j, hk, e11, e12, e13, e14, e15, e16, e19, s19, e23, e24⟩
    simp -implicitDefEqProofs (disch := omega) only [go_sem, ↓reduceIte, reduceEqDiff, reduceMul, reduceAdd, reduceDiv, Nat.reduceBEq, reduceLeDiff, reduceToNat, reduceNe, reduceEq, reduceLT, reduceLE, Int.reduceBEq, Int.reduceBNe, e11, e12, e13, e14, e15, e16, e19, s19, e23, e24]
    refine branch_mk (fun hc => ?_) (fun hc => ?_)
    · have hg := hgd j (by omega)
      simp -implicitDefEqProofs (disch := omega) only [go_sem, ↓reduceIte, reduceEqDiff, reduceMul, reduceAdd, reduceDiv, Nat.reduceBEq, reduceLeDiff, reduceToNat, reduceNe, reduceEq, reduceLT, reduceLE, Int.reduceBEq, Int.reduceBNe, e11, e12, e13, e14, e15, e16, e19, s19, e23, e24, hl9]
      have ej : ((j : Int) - 1 + 1).toNat = j := by omega
      have hj9 := nb_le l n lo hi j
      refine branch_mk (fun h1 => ?_) (fun h1 => ?_)
      · rw [ej, hg] at h1
        obtain ⟨y1, y2, y3⟩ := nb_yes (show j < 9 by omega) h1
        rw [hwho] at y1 y2
        simp -implicitDefEqProofs (disch := omega) only [go_sem, ↓reduceIte, reduceEqDiff, reduceMul, reduceAdd, reduceDiv, Nat.reduceBEq, reduceLeDiff, reduceToNat, reduceNe, reduceEq, reduceLT, reduceLE, Int.reduceBEq, Int.reduceBNe, e11, e12, e13, e14, e15, e16, e19, s19, e23, e24]
        refine branch_r (by omega) ?_
        simp -implicitDefEqProofs (disch := omega) only [go_sem, ↓reduceIte, reduceEqDiff, reduceMul, reduceAdd, reduceDiv, Nat.reduceBEq, reduceLeDiff, reduceToNat, reduceNe, reduceEq, reduceLT, reduceLE, Int.reduceBEq, Int.reduceBNe, e11, e12, e13, e14, e15, e16, e19, s19, e23, e24, y2]
        refine againQ_mk (9 - (j + 1)) (by omega) ⟨j + 1, by omega, ?_⟩
        simp -implicitDefEqProofs (disch := omega) only [go_sem, ↓reduceIte, reduceEqDiff, reduceMul, reduceAdd, reduceDiv, Nat.reduceBEq, reduceLeDiff, reduceToNat, reduceNe, reduceEq, reduceLT, reduceLE, Int.reduceBEq, Int.reduceBNe, e11, e12, e13, e14, e15, e16, e19, s19, e23, e24, y3]
        rw [show (j : Int) - 1 + 1 = ((j + 1 : Nat) : Int) - 1 by omega]
        exact ⟨rfl, rfl⟩
      · rw [ej, hg] at h1
        have y3 := nb_no (show j < 9 by omega) (Bool.eq_false_iff.2 h1)
        simp -implicitDefEqProofs (disch := omega) only [go_sem, ↓reduceIte, reduceEqDiff, reduceMul, reduceAdd, reduceDiv, Nat.reduceBEq, reduceLeDiff, reduceToNat, reduceNe, reduceEq, reduceLT, reduceLE, Int.reduceBEq, Int.reduceBNe, e11, e12, e13, e14, e15, e16, e19, s19, e23, e24]
        refine againQ_mk (9 - (j + 1)) (by omega) ⟨j + 1, by omega, ?_⟩
        simp -implicitDefEqProofs (disch := omega) only [go_sem, ↓reduceIte, reduceEqDiff, reduceMul, reduceAdd, reduceDiv, Nat.reduceBEq, reduceLeDiff, reduceToNat, reduceNe, reduceEq, reduceLT, reduceLE, Int.reduceBEq, Int.reduceBNe, e11, e12, e13, e14, e15, e16, e19, s19, e23, e24, y3]
        rw [show (j : Int) - 1 + 1 = ((j + 1 : Nat) : Int) - 1 by omega]
    · obtain rfl : j = 9 := by omega
      rw [nb_nine, hwho] at e23
      simp -implicitDefEqProofs (disch := omega) only [go_sem, ↓reduceIte, reduceEqDiff, reduceMul, reduceAdd, reduceDiv, Nat.reduceBEq, reduceLeDiff, reduceToNat, reduceNe, reduceEq, reduceLT, reduceLE, Int.reduceBEq, Int.reduceBNe, e11, e12, e13, e14, e15, e16, e19, s19, e23, e24]
      refine callC_at cs ?_
      simp -implicitDefEqProofs (disch := omega) only [go_sem, ↓reduceIte, reduceEqDiff, reduceMul, reduceAdd, reduceDiv, Nat.reduceBEq, reduceLeDiff, reduceToNat, reduceNe, reduceEq, reduceLT, reduceLE, Int.reduceBEq, Int.reduceBNe, e11, e12, e13, e14, e15, e16, e19, s19, e23, e24]
      refine branch_mk (fun h1 => ?_) (fun h1 => ?_)
      · simp -implicitDefEqProofs (disch := omega) only [go_sem, ↓reduceIte, reduceEqDiff, reduceMul, reduceAdd, reduceDiv, Nat.reduceBEq, reduceLeDiff, reduceToNat, reduceNe, reduceEq, reduceLT, reduceLE, Int.reduceBEq, Int.reduceBNe, e11, e12, e13, e14, e15, e16, e19, s19, e23, e24, Tryd.results5]
      · have hle := hone (by omega)
        simp -implicitDefEqProofs (disch := omega) only [go_sem, ↓reduceIte, reduceEqDiff, reduceMul, reduceAdd, reduceDiv, Nat.reduceBEq, reduceLeDiff, reduceToNat, reduceNe, reduceEq, reduceLT, reduceLE, Int.reduceBEq, Int.reduceBNe, e11, e12, e13, e14, e15, e16, e19, s19, e23, e24, Tryd.results5]
        rw [decide_eq_true (by omega)]
end Go.Proofs.YthkihocapdfonaaDoor
set_option maxRecDepth 100000
namespace Go.Proofs.YthkihocapdfonaaDoor
open Go.Vai Go Go.Proofs
open Nat (reduceEqDiff reduceMul reduceAdd reduceDiv reduceLeDiff)
open Int (reduceToNat reduceNe reduceEq reduceLT reduceLE)
theorem tableBetween_lifted (os : Os) (started : os.Started) (H : Type) (enc : TypeId × Value → H) :
    ReturnsInHanded {} Tryd.checked os 5 .any (fun w args => (Rows.tableBetweenSpec.pre enc Tryd.prog Tryd.f5 [] false w args ∧ laidMetH Tryd.prog laid3 w) ∧ sizedMet enc Tryd.prog Tryd.f5 (OpenSpec.ofChange Rows.tableBetweenSpec) false w args)
      (Rows.tableBetweenSpec.post enc Tryd.prog Tryd.f5 false true false false) :=
  liftedG (C := Tryd.checked) (tb := 4) (ps := [OQ, OI, OI, OI, OI]) (X := fun w _ => laidMetH Tryd.prog laid3 w) (fun _ _ _ hh h => h.of_heap hh) own3 started (by kernel_rfl) Tryd.func5
    (ChangeSpec.witness_shaped (enc := enc) (C := Tryd.checked) (os := os) (X := fun w _ => laidMetH Tryd.prog laid3 w) false (World.doorLaid Tryd.prog 14 os) #[.slice none 0 0, .int .i64 0, .int .i64 0, .int .i64 0, .int .i64 0] 8 rfl (World.shaped_of_RefB (by kernel_rfl) (by kernel_rfl)) (by kernel_rfl) (by kernel_rfl) (by kernel_rfl) (door_met os _))
    laidOut3 (by kernel_rfl) (by kernel_rfl) (by kernel_rfl) rfl (len_5 fun _ _ _ _ _ => rfl)
    (fun w => ⟨o_fours, o_int (by kernel_rfl), o_int (by kernel_rfl), o_int (by kernel_rfl), o_int (by kernel_rfl), trivial⟩)
    (allP_5 fun a0 a1 a2 a3 a4 h0 h1 h2 h3 h4 => by
      obtain ⟨x0, hx0, hr0, rfl⟩ := h0
      obtain ⟨x1, hx1, rfl⟩ := h1
      obtain ⟨x2, hx2, rfl⟩ := h2
      obtain ⟨x3, hx3, rfl⟩ := h3
      obtain ⟨x4, hx4, rfl⟩ := h4
      exact betw_ev x0 x1 x2 x3 x4 hx0 hr0 hx1 hx2 hx3 hx4)
    (fun _ _ h => gok h)
theorem tableBetween_row : Rows.TableBetweenSaid :=
  OpenClaim.holds_of_wide 5 Tryd.f5 rfl rfl rfl rfl rfl rfl rfl ⟨rfl, rfl, rfl, rfl, rfl⟩ rfl rfl rfl rfl rfl (by kernel_rfl) Tryd.func5 (by kernel_rfl)
    (of_decide_eq_true (by kernel_rfl)) (by unfold Func.isWrapper; first | (rw [if_pos (by decide +kernel)]; kernel_rfl) | (rw [if_neg (by decide +kernel)]; exact ⟨rfl, rfl⟩))
    (fun os started H enc _ => tableBetween_lifted os started H enc)
theorem tableBetween_holds : Rows.TableBetweenCardSaid :=
  Claim7.holds_tied_plain_at .later [] [.data] true (true, "a7fbe88a3d6af073a3870589c160493439a8c551a37f68fc5a20ba86f7e405cd") false
    tableBetween_row (fun _ h => by cases h) (by kernel_rfl) (fun _ h => by cases h) tableBetween_row_tie rfl ⟨rfl, rfl⟩ (by kernel_rfl) rfl
    (fun f fn hf hfn => by
      obtain rfl : f = 5 := Option.some.inj ((show Tryd.prog.funcNamed "dialtone/dialtonelaw23.TableBetween" = some 5 by kernel_rfl).symm.trans hf) |>.symm
      obtain rfl : fn = Tryd.f5 := (Option.some.inj (Tryd.func5.symm.trans hfn)).symm
      exact ⟨by kernel_rfl, fun j t ht => by
          rw [Tryd.params5] at ht
          rcases j with _ | j
          · obtain rfl : t = 22 := by simpa using ht.symm
            exact (show Tryd.prog.wantsStandIn 22 = false by kernel_rfl)
          rcases j with _ | j
          · obtain rfl : t = 3 := by simpa using ht.symm
            exact (show Tryd.prog.wantsStandIn 3 = false by kernel_rfl)
          rcases j with _ | j
          · obtain rfl : t = 3 := by simpa using ht.symm
            exact (show Tryd.prog.wantsStandIn 3 = false by kernel_rfl)
          rcases j with _ | j
          · obtain rfl : t = 3 := by simpa using ht.symm
            exact (show Tryd.prog.wantsStandIn 3 = false by kernel_rfl)
          rcases j with _ | j
          · obtain rfl : t = 3 := by simpa using ht.symm
            exact (show Tryd.prog.wantsStandIn 3 = false by kernel_rfl)
          simp at ht⟩)
    (by kernel_rfl)
#print axioms tableBetween_holds
end Go.Proofs.YthkihocapdfonaaDoor

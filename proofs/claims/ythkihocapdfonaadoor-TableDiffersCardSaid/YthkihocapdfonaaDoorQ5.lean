/- Chapter 23, TableDiffers: a number is in a range of the differences exactly if it is not held alike in both versions; each such number is in the range of an update between them. Conditions: the package variable digest.round reads as the program's text lays it (tied). -/
import Derived.Test.YthkihocapdfonaaDoorKH
set_option linter.unusedVariables false
set_option linter.unusedSimpArgs false
set_option maxRecDepth 100000
namespace Go.Proofs.YthkihocapdfonaaDoor
open Go.Vai Go Go.Proofs
open Nat (reduceEqDiff reduceMul reduceAdd reduceDiv reduceLeDiff)
open Int (reduceToNat reduceNe reduceEq reduceLT reduceLE)
theorem difF_len (a b : List Bk) : (difF a b).length ≤ 100000000 := by
  have h : ∀ (l : List Pc) (o : List Rg), (l.foldl difS o).length ≤ o.length + l.length := fun l => by
    induction l with
    | nil => intro o; simp
    | cons q l ih =>
      intro o
      rw [List.foldl_cons]
      have h1 := ih (difS o q)
      have h2 := difS_len o q
      rw [List.length_cons]; omega
  have h1 := h (pcsN 100000000 a b 0) []
  have h2 := pcsN_len 100000000 a b 0
  unfold difF
  simp only [List.length_nil] at h1
  omega
def anyR (l : List Rg) (n : Int) : Bool := l.any fun r => decide (r.1 ≤ n) && decide (n < r.2)
theorem anyR_iff (l : List Rg) (n : Int) : anyR l n = true ↔ inR l n := by
  unfold anyR inR
  rw [List.any_eq_true]
  constructor
  · rintro ⟨r, hr, h⟩
    simp only [Bool.and_eq_true, decide_eq_true_eq] at h
    exact ⟨r, hr, h⟩
  · rintro ⟨r, hr, h⟩
    exact ⟨r, hr, by simpa using h⟩
theorem anyR_succ (l : List Rg) (n : Int) {i : Nat} (h : i < l.length) : anyR (l.take (i + 1)) n = (anyR (l.take i) n || (decide ((gd l i).1 ≤ n) && decide (n < (gd l i).2))) := by
  unfold anyR; rw [take_succ' l i h, List.any_append]; simp
def saidF (l : List Up) (n : Int) (a : Nat) : Nat → Bool
  | 0 => false
  | k + 1 => saidF l n a k || (decide ((gd l (a + k)).f ≤ n) && decide (n < (gd l (a + k)).t))
theorem saidF_of (l : List Up) (n : Int) (a : Nat) : ∀ (k j : Nat), j < k → (gd l (a + j)).has n → saidF l n a k = true
  | 0, _, h, _ => by cases h
  | k + 1, j, h, hj => by
    rw [saidF]
    by_cases e : j = k
    · subst e
      rw [show (decide ((gd l (a + j)).f ≤ n) && decide (n < (gd l (a + j)).t)) = true from by simp; exact hj, Bool.or_true]
    · rw [saidF_of l n a k j (by omega) hj, Bool.true_or]
set_option maxHeartbeats 4000000 in
theorem differs_ev (x : List Q4) (a b which number : Int) (hn : x.length ≤ 9223372036854775807) (hx : ∀ q ∈ x, q.ok) (ha : R64 a) (hb : R64 b) (hw : R64 which) (hnn : R64 number) : Ev Tryd.prog 7 [QL x, I a, I b, I which, I number] (B true) := by
  have c0 := made_ev x hx hn
  have ht := madeF_valid x
  generalize madeF x = l at *
  have h40 := len40 ht
  obtain ⟨v, hvl, _, cp⟩ := pickV l a h40 ha
  obtain ⟨w, hwl, _, cq⟩ := pickV l b h40 hb
  have cn := near_ev l which number (by omega) (validT_nb ht) hw hnn
  have hin := nearF_in l which number
  generalize nearF l which number = n at *
  have d1 := differ_at ht hvl hwl
  have d2 := differ_at ht hwl hvl
  rw [difF_sw] at d2
  have hdl := difF_len (mapV l v) (mapV l w)
  have hsp := difF_spec (validB_iff.1 (map_ok ht hvl)).2 (validB_iff.1 (map_ok ht hwl)).2 n
  rw [heldV_map ht hvl, heldV_map ht hwl, ← anyR_iff] at hsp
  generalize difF (mapV l v) (mapV l w) = D at *
  have hc := held_at ht hvl hin
  have hd := held_at ht hwl hin
  have hdiff : heldV l n v ≠ heldV l n w → saidF l n (min v w) (max v w - min v w) = true := fun hne => by
    by_cases hvw : v ≤ w
    · obtain ⟨i, h1, h2, h3⟩ := heldV_diff l n hvw hwl hne
      exact saidF_of l n _ _ (i - v) (by omega) (by rw [Nat.min_eq_left hvw, show v + (i - v) = i from by omega]; exact h3)
    · obtain ⟨i, h1, h2, h3⟩ := heldV_diff l n (v := w) (w := v) (by omega) hvl (fun h => hne h.symm)
      exact saidF_of l n _ _ (i - w) (by omega) (by rw [Nat.min_eq_right (by omega), show w + (i - w) = i from by omega]; exact h3)
  generalize heldV l n v = p at *
  generalize heldV l n w = q at *
  have hsp : anyR D n = decide ¬p = q := by
    by_cases e : p = q
    · rw [decide_eq_false (fun h => h e)]
      cases h : anyR D n with
      | false => rfl
      | true => exact absurd e (hsp.1 h).2
    · rw [decide_eq_true e]
      exact hsp.2 ⟨by omega, e⟩
  refine ev_of Tryd.func7 rfl (by kernel_rfl) mo (Nat.le_of_ble_eq_true rfl) ?_
  simp -implicitDefEqProofs (disch := omega) only [go_sem, ↓reduceIte, reduceEqDiff, reduceMul, reduceAdd, reduceDiv, Nat.reduceBEq, reduceLeDiff, reduceToNat, reduceNe, reduceEq, reduceLT, reduceLE, Int.reduceBEq, Int.reduceBNe, Tryd.ntmps7]
  refine callC_at sane_ev ?_
  simp -implicitDefEqProofs (disch := omega) only [go_sem, ↓reduceIte, reduceEqDiff, reduceMul, reduceAdd, reduceDiv, Nat.reduceBEq, reduceLeDiff, reduceToNat, reduceNe, reduceEq, reduceLT, reduceLE, Int.reduceBEq, Int.reduceBNe]
  refine callC_at c0 ?_
  simp -implicitDefEqProofs (disch := omega) only [go_sem, ↓reduceIte, reduceEqDiff, reduceMul, reduceAdd, reduceDiv, Nat.reduceBEq, reduceLeDiff, reduceToNat, reduceNe, reduceEq, reduceLT, reduceLE, Int.reduceBEq, Int.reduceBNe]
  refine callC_at cp ?_
  simp -implicitDefEqProofs (disch := omega) only [go_sem, ↓reduceIte, reduceEqDiff, reduceMul, reduceAdd, reduceDiv, Nat.reduceBEq, reduceLeDiff, reduceToNat, reduceNe, reduceEq, reduceLT, reduceLE, Int.reduceBEq, Int.reduceBNe]
  refine callC_at cq ?_
  simp -implicitDefEqProofs (disch := omega) only [go_sem, ↓reduceIte, reduceEqDiff, reduceMul, reduceAdd, reduceDiv, Nat.reduceBEq, reduceLeDiff, reduceToNat, reduceNe, reduceEq, reduceLT, reduceLE, Int.reduceBEq, Int.reduceBNe]
  refine callC_at cn ?_
  simp -implicitDefEqProofs (disch := omega) only [go_sem, ↓reduceIte, reduceEqDiff, reduceMul, reduceAdd, reduceDiv, Nat.reduceBEq, reduceLeDiff, reduceToNat, reduceNe, reduceEq, reduceLT, reduceLE, Int.reduceBEq, Int.reduceBNe]
  refine callC_at d1 ?_
  simp -implicitDefEqProofs (disch := omega) only [go_sem, ↓reduceIte, reduceEqDiff, reduceMul, reduceAdd, reduceDiv, Nat.reduceBEq, reduceLeDiff, reduceToNat, reduceNe, reduceEq, reduceLT, reduceLE, Int.reduceBEq, Int.reduceBNe]
  refine callC_at d2 ?_
  simp -implicitDefEqProofs (disch := omega) only [go_sem, ↓reduceIte, reduceEqDiff, reduceMul, reduceAdd, reduceDiv, Nat.reduceBEq, reduceLeDiff, reduceToNat, reduceNe, reduceEq, reduceLT, reduceLE, Int.reduceBEq, Int.reduceBNe]
  refine loopC_mk (fun k E σ => ∃ i : Nat, i + k = D.length ∧ E 11 = UPS l ∧ E 12 = I v ∧ E 13 = I w ∧ E 14 = I n ∧ E 15 = RL D ∧ E 16 = I 0 ∧ E 17 = RL D ∧ E 18 = I 0 ∧ E 19 = B (anyR (D.take i) n) ∧ E 20 = I i) D.length ⟨0, by omega, ?_⟩ ?_
  · simp -implicitDefEqProofs (disch := omega) only [go_sem, ↓reduceIte, reduceEqDiff, reduceMul, reduceAdd, reduceDiv, Nat.reduceBEq, reduceLeDiff, reduceToNat, reduceNe, reduceEq, reduceLT, reduceLE, Int.reduceBEq, Int.reduceBNe]
    exact ⟨rfl, rfl⟩
  rintro k E σ ⟨i, hk, e11, e12, e13, e14, e15, e16, e17, e18, e19, e20⟩
  simp -implicitDefEqProofs (disch := omega) only [go_sem, ↓reduceIte, reduceEqDiff, reduceMul, reduceAdd, reduceDiv, Nat.reduceBEq, reduceLeDiff, reduceToNat, reduceNe, reduceEq, reduceLT, reduceLE, Int.reduceBEq, Int.reduceBNe, e11, e12, e13, e14, e15, e16, e17, e18, e19, e20]
  refine branch_mk (fun hc1 => ?_) (fun hc1 => ?_)
  · have hs := anyR_succ D n (i := i) (by omega)
    generalize anyR (D.take i) n = z at *
    simp -implicitDefEqProofs (disch := omega) only [go_sem, ↓reduceIte, reduceEqDiff, reduceMul, reduceAdd, reduceDiv, Nat.reduceBEq, reduceLeDiff, reduceToNat, reduceNe, reduceEq, reduceLT, reduceLE, Int.reduceBEq, Int.reduceBNe, e11, e12, e13, e14, e15, e16, e17, e18, e19, e20]
    refine branch_mk (fun h1 => ?_) (fun h1 => ?_)
    · rw [h1, Bool.true_or] at hs
      simp -implicitDefEqProofs (disch := omega) only [go_sem, ↓reduceIte, reduceEqDiff, reduceMul, reduceAdd, reduceDiv, Nat.reduceBEq, reduceLeDiff, reduceToNat, reduceNe, reduceEq, reduceLT, reduceLE, Int.reduceBEq, Int.reduceBNe, e11, e12, e13, e14, e15, e16, e17, e18, e19, e20, h1]
      refine againQ_mk (D.length - (i + 1)) (by omega) ⟨i + 1, by omega, ?_⟩
      simp -implicitDefEqProofs (disch := omega) only [go_sem, ↓reduceIte, reduceEqDiff, reduceMul, reduceAdd, reduceDiv, Nat.reduceBEq, reduceLeDiff, reduceToNat, reduceNe, reduceEq, reduceLT, reduceLE, Int.reduceBEq, Int.reduceBNe, e11, e12, e13, e14, e15, e16, e17, e18, e19, e20, h1, hs]
      rfl
    have h1 : z = false := by simpa using h1
    rw [h1, Bool.false_or] at hs
    simp -implicitDefEqProofs (disch := omega) only [go_sem, ↓reduceIte, reduceEqDiff, reduceMul, reduceAdd, reduceDiv, Nat.reduceBEq, reduceLeDiff, reduceToNat, reduceNe, reduceEq, reduceLT, reduceLE, Int.reduceBEq, Int.reduceBNe, e11, e12, e13, e14, e15, e16, e17, e18, e19, e20, h1]
    refine branch_mk (fun h2 => ?_) (fun h2 => ?_)
    · rw [decide_eq_true h2, Bool.true_and] at hs
      simp -implicitDefEqProofs (disch := omega) only [go_sem, ↓reduceIte, reduceEqDiff, reduceMul, reduceAdd, reduceDiv, Nat.reduceBEq, reduceLeDiff, reduceToNat, reduceNe, reduceEq, reduceLT, reduceLE, Int.reduceBEq, Int.reduceBNe, e11, e12, e13, e14, e15, e16, e17, e18, e19, e20, h1, h2]
      refine againQ_mk (D.length - (i + 1)) (by omega) ⟨i + 1, by omega, ?_⟩
      simp -implicitDefEqProofs (disch := omega) only [go_sem, ↓reduceIte, reduceEqDiff, reduceMul, reduceAdd, reduceDiv, Nat.reduceBEq, reduceLeDiff, reduceToNat, reduceNe, reduceEq, reduceLT, reduceLE, Int.reduceBEq, Int.reduceBNe, e11, e12, e13, e14, e15, e16, e17, e18, e19, e20, h1, h2, hs]
      rfl
    · rw [decide_eq_false h2, Bool.false_and] at hs
      simp -implicitDefEqProofs (disch := omega) only [go_sem, ↓reduceIte, reduceEqDiff, reduceMul, reduceAdd, reduceDiv, Nat.reduceBEq, reduceLeDiff, reduceToNat, reduceNe, reduceEq, reduceLT, reduceLE, Int.reduceBEq, Int.reduceBNe, e11, e12, e13, e14, e15, e16, e17, e18, e19, e20, h1, h2]
      refine againQ_mk (D.length - (i + 1)) (by omega) ⟨i + 1, by omega, ?_⟩
      simp -implicitDefEqProofs (disch := omega) only [go_sem, ↓reduceIte, reduceEqDiff, reduceMul, reduceAdd, reduceDiv, Nat.reduceBEq, reduceLeDiff, reduceToNat, reduceNe, reduceEq, reduceLT, reduceLE, Int.reduceBEq, Int.reduceBNe, e11, e12, e13, e14, e15, e16, e17, e18, e19, e20, h1, h2, hs]
      rfl
  · obtain rfl : i = D.length := by omega
    rw [List.take_length, hsp] at e19
    simp -implicitDefEqProofs (disch := omega) only [go_sem, ↓reduceIte, reduceEqDiff, reduceMul, reduceAdd, reduceDiv, Nat.reduceBEq, reduceLeDiff, reduceToNat, reduceNe, reduceEq, reduceLT, reduceLE, Int.reduceBEq, Int.reduceBNe, e11, e12, e13, e14, e15, e16, e17, e18, e19, e20]
    refine callC_at hc ?_
    simp -implicitDefEqProofs (disch := omega) only [go_sem, ↓reduceIte, reduceEqDiff, reduceMul, reduceAdd, reduceDiv, Nat.reduceBEq, reduceLeDiff, reduceToNat, reduceNe, reduceEq, reduceLT, reduceLE, Int.reduceBEq, Int.reduceBNe, e11, e12, e13, e14, e15, e16, e17, e18, e19, e20]
    refine callC_at hd ?_
    simp -implicitDefEqProofs (disch := omega) only [go_sem, ↓reduceIte, reduceEqDiff, reduceMul, reduceAdd, reduceDiv, Nat.reduceBEq, reduceLeDiff, reduceToNat, reduceNe, reduceEq, reduceLT, reduceLE, Int.reduceBEq, Int.reduceBNe, e11, e12, e13, e14, e15, e16, e17, e18, e19, e20]
    refine callC_at (sameR_ev D D (by omega) (by omega)) ?_
    simp -implicitDefEqProofs (disch := omega) only [go_sem, ↓reduceIte, reduceEqDiff, reduceMul, reduceAdd, reduceDiv, Nat.reduceBEq, reduceLeDiff, reduceToNat, reduceNe, reduceEq, reduceLT, reduceLE, Int.reduceBEq, Int.reduceBNe, e11, e12, e13, e14, e15, e16, e17, e18, e19, e20]
    refine branch_r (by by_cases e : p = q <;> simp [e]) ?_
    simp -implicitDefEqProofs (disch := omega) only [go_sem, ↓reduceIte, reduceEqDiff, reduceMul, reduceAdd, reduceDiv, Nat.reduceBEq, reduceLeDiff, reduceToNat, reduceNe, reduceEq, reduceLT, reduceLE, Int.reduceBEq, Int.reduceBNe, e11, e12, e13, e14, e15, e16, e17, e18, e19, e20]
    have hmin : min (v : Int) (w : Int) = (min v w : Nat) := by omega
    have hmax : max (v : Int) (w : Int) = (max v w : Nat) := by omega
    have hlo : min v w ≤ max v w := by omega
    have hhi : max v w ≤ l.length := by omega
    generalize min v w = lo at *
    generalize max v w = hi at *
    refine loopC_mk (fun k E σ => ∃ i : Nat, i + k = hi - lo ∧ E 11 = UPS l ∧ E 12 = I v ∧ E 13 = I w ∧ E 14 = I n ∧ E 19 = B (decide ¬p = q) ∧ E 25 = B (saidF l n lo i) ∧ E 26 = I (lo + i : Nat)) (hi - lo) ⟨0, by omega, ?_⟩ ?_
    · simp -implicitDefEqProofs (disch := omega) only [go_sem, ↓reduceIte, reduceEqDiff, reduceMul, reduceAdd, reduceDiv, Nat.reduceBEq, reduceLeDiff, reduceToNat, reduceNe, reduceEq, reduceLT, reduceLE, Int.reduceBEq, Int.reduceBNe, e11, e12, e13, e14, e15, e16, e17, e18, e19, e20, hmin]
      rfl
    clear e11 e12 e13 e14 e15 e16 e17 e18 e19 e20 E σ k hk
    rintro k E σ ⟨i, hk, e11, e12, e13, e14, e19, e25, e26⟩
    simp -implicitDefEqProofs (disch := omega) only [go_sem, ↓reduceIte, reduceEqDiff, reduceMul, reduceAdd, reduceDiv, Nat.reduceBEq, reduceLeDiff, reduceToNat, reduceNe, reduceEq, reduceLT, reduceLE, Int.reduceBEq, Int.reduceBNe, e11, e12, e13, e14, e19, e25, e26, hmax]
    refine branch_mk (fun hc2 => ?_) (fun hc2 => ?_)
    · have hs : saidF l n lo (i + 1) = (saidF l n lo i || (decide ((gd l (lo + i)).f ≤ n) && decide (n < (gd l (lo + i)).t))) := rfl
      have hg : ((lo + i : Nat) : Int) + 1 = ((lo + (i + 1) : Nat) : Int) := by omega
      generalize saidF l n lo i = z at *
      simp -implicitDefEqProofs (disch := omega) only [go_sem, ↓reduceIte, reduceEqDiff, reduceMul, reduceAdd, reduceDiv, Nat.reduceBEq, reduceLeDiff, reduceToNat, reduceNe, reduceEq, reduceLT, reduceLE, Int.reduceBEq, Int.reduceBNe, e11, e12, e13, e14, e19, e25, e26, hmax]
      refine branch_mk (fun h1 => ?_) (fun h1 => ?_)
      · rw [h1, Bool.true_or] at hs
        simp -implicitDefEqProofs (disch := omega) only [go_sem, ↓reduceIte, reduceEqDiff, reduceMul, reduceAdd, reduceDiv, Nat.reduceBEq, reduceLeDiff, reduceToNat, reduceNe, reduceEq, reduceLT, reduceLE, Int.reduceBEq, Int.reduceBNe, e11, e12, e13, e14, e19, e25, e26, hmax, h1]
        refine againQ_mk (hi - lo - (i + 1)) (by omega) ⟨i + 1, by omega, ?_⟩
        simp -implicitDefEqProofs (disch := omega) only [go_sem, ↓reduceIte, reduceEqDiff, reduceMul, reduceAdd, reduceDiv, Nat.reduceBEq, reduceLeDiff, reduceToNat, reduceNe, reduceEq, reduceLT, reduceLE, Int.reduceBEq, Int.reduceBNe, e11, e12, e13, e14, e19, e25, e26, hmax, h1, hs, hg]
      have h1 : z = false := by simpa using h1
      rw [h1, Bool.false_or] at hs
      simp -implicitDefEqProofs (disch := omega) only [go_sem, ↓reduceIte, reduceEqDiff, reduceMul, reduceAdd, reduceDiv, Nat.reduceBEq, reduceLeDiff, reduceToNat, reduceNe, reduceEq, reduceLT, reduceLE, Int.reduceBEq, Int.reduceBNe, e11, e12, e13, e14, e19, e25, e26, hmax, h1]
      refine branch_mk (fun h2 => ?_) (fun h2 => ?_)
      · rw [decide_eq_true h2, Bool.true_and] at hs
        simp -implicitDefEqProofs (disch := omega) only [go_sem, ↓reduceIte, reduceEqDiff, reduceMul, reduceAdd, reduceDiv, Nat.reduceBEq, reduceLeDiff, reduceToNat, reduceNe, reduceEq, reduceLT, reduceLE, Int.reduceBEq, Int.reduceBNe, e11, e12, e13, e14, e19, e25, e26, hmax, h1, h2]
        refine againQ_mk (hi - lo - (i + 1)) (by omega) ⟨i + 1, by omega, ?_⟩
        simp -implicitDefEqProofs (disch := omega) only [go_sem, ↓reduceIte, reduceEqDiff, reduceMul, reduceAdd, reduceDiv, Nat.reduceBEq, reduceLeDiff, reduceToNat, reduceNe, reduceEq, reduceLT, reduceLE, Int.reduceBEq, Int.reduceBNe, e11, e12, e13, e14, e19, e25, e26, hmax, h1, h2, hs, hg]
      · rw [decide_eq_false h2, Bool.false_and] at hs
        simp -implicitDefEqProofs (disch := omega) only [go_sem, ↓reduceIte, reduceEqDiff, reduceMul, reduceAdd, reduceDiv, Nat.reduceBEq, reduceLeDiff, reduceToNat, reduceNe, reduceEq, reduceLT, reduceLE, Int.reduceBEq, Int.reduceBNe, e11, e12, e13, e14, e19, e25, e26, hmax, h1, h2]
        refine againQ_mk (hi - lo - (i + 1)) (by omega) ⟨i + 1, by omega, ?_⟩
        simp -implicitDefEqProofs (disch := omega) only [go_sem, ↓reduceIte, reduceEqDiff, reduceMul, reduceAdd, reduceDiv, Nat.reduceBEq, reduceLeDiff, reduceToNat, reduceNe, reduceEq, reduceLT, reduceLE, Int.reduceBEq, Int.reduceBNe, e11, e12, e13, e14, e19, e25, e26, hmax, h1, h2, hs, hg]
    · obtain rfl : i = hi - lo := by omega
      by_cases e : p = q
      · simp -implicitDefEqProofs (disch := omega) only [go_sem, ↓reduceIte, reduceEqDiff, reduceMul, reduceAdd, reduceDiv, Nat.reduceBEq, reduceLeDiff, reduceToNat, reduceNe, reduceEq, reduceLT, reduceLE, Int.reduceBEq, Int.reduceBNe, e11, e12, e13, e14, e19, e25, e26, e, Tryd.results7]
      · rw [hdiff e] at e25
        simp -implicitDefEqProofs (disch := omega) only [go_sem, ↓reduceIte, reduceEqDiff, reduceMul, reduceAdd, reduceDiv, Nat.reduceBEq, reduceLeDiff, reduceToNat, reduceNe, reduceEq, reduceLT, reduceLE, Int.reduceBEq, Int.reduceBNe, e11, e12, e13, e14, e19, e25, e26, e, Tryd.results7]
end Go.Proofs.YthkihocapdfonaaDoor
set_option maxRecDepth 100000
namespace Go.Proofs.YthkihocapdfonaaDoor
open Go.Vai Go Go.Proofs
open Nat (reduceEqDiff reduceMul reduceAdd reduceDiv reduceLeDiff)
open Int (reduceToNat reduceNe reduceEq reduceLT reduceLE)
theorem tableDiffers_lifted (os : Os) (started : os.Started) (H : Type) (enc : TypeId × Value → H) :
    ReturnsInHanded {} Tryd.checked os 7 .any (fun w args => (Rows.tableDiffersSpec.pre enc Tryd.prog Tryd.f7 [] false w args ∧ laidMetH Tryd.prog laid3 w) ∧ sizedMet enc Tryd.prog Tryd.f7 (OpenSpec.ofChange Rows.tableDiffersSpec) false w args)
      (Rows.tableDiffersSpec.post enc Tryd.prog Tryd.f7 false true false false) :=
  liftedG (C := Tryd.checked) (tb := 4) (ps := [OQ, OI, OI, OI, OI]) (X := fun w _ => laidMetH Tryd.prog laid3 w) (fun _ _ _ hh h => h.of_heap hh) own3 started (by kernel_rfl) Tryd.func7
    (ChangeSpec.witness_shaped (enc := enc) (C := Tryd.checked) (os := os) (X := fun w _ => laidMetH Tryd.prog laid3 w) false (World.doorLaid Tryd.prog 14 os) #[.slice none 0 0, .int .i64 0, .int .i64 0, .int .i64 0, .int .i64 0] 8 rfl (World.shaped_of_RefB (by kernel_rfl) (by kernel_rfl)) (by kernel_rfl) (by kernel_rfl) (by kernel_rfl) (door_met os _))
    laidOut3 (by kernel_rfl) (by kernel_rfl) (by kernel_rfl) rfl (len_5 fun _ _ _ _ _ => rfl)
    (fun w => ⟨o_fours, o_int (by kernel_rfl), o_int (by kernel_rfl), o_int (by kernel_rfl), o_int (by kernel_rfl), trivial⟩)
    (allP_5 fun a0 a1 a2 a3 a4 h0 h1 h2 h3 h4 => by
      obtain ⟨x0, hx0, hr0, rfl⟩ := h0
      obtain ⟨x1, hx1, rfl⟩ := h1
      obtain ⟨x2, hx2, rfl⟩ := h2
      obtain ⟨x3, hx3, rfl⟩ := h3
      obtain ⟨x4, hx4, rfl⟩ := h4
      exact differs_ev x0 x1 x2 x3 x4 hx0 hr0 hx1 hx2 hx3 hx4)
    (fun _ _ h => gok h)
theorem tableDiffers_row : Rows.TableDiffersSaid :=
  OpenClaim.holds_of_wide 7 Tryd.f7 rfl rfl rfl rfl rfl rfl rfl ⟨rfl, rfl, rfl, rfl, rfl⟩ rfl rfl rfl rfl rfl (by kernel_rfl) Tryd.func7 (by kernel_rfl)
    (of_decide_eq_true (by kernel_rfl)) (by unfold Func.isWrapper; first | (rw [if_pos (by decide +kernel)]; kernel_rfl) | (rw [if_neg (by decide +kernel)]; exact ⟨rfl, rfl⟩))
    (fun os started H enc _ => tableDiffers_lifted os started H enc)
theorem tableDiffers_holds : Rows.TableDiffersCardSaid :=
  Claim7.holds_tied_plain_at .later [] [.data] true (true, "a7fbe88a3d6af073a3870589c160493439a8c551a37f68fc5a20ba86f7e405cd") false
    tableDiffers_row (fun _ h => by cases h) (by kernel_rfl) (fun _ h => by cases h) tableDiffers_row_tie rfl ⟨rfl, rfl⟩ (by kernel_rfl) rfl
    (fun f fn hf hfn => by
      obtain rfl : f = 7 := Option.some.inj ((show Tryd.prog.funcNamed "dialtone/dialtonelaw23.TableDiffers" = some 7 by kernel_rfl).symm.trans hf) |>.symm
      obtain rfl : fn = Tryd.f7 := (Option.some.inj (Tryd.func7.symm.trans hfn)).symm
      exact ⟨by kernel_rfl, fun j t ht => by
          rw [Tryd.params7] at ht
          rcases j with _ | j
          · obtain rfl : t = 22 := by simpa using ht.symm
            exact (show Tryd.prog.wantsStandIn 22 = false by kernel_rfl)
          rcases j with _ | j
          · obtain rfl : t = 3 := by simpa using ht.symm
            exact (show Tryd.prog.wantsStandIn 3 = false by kernel_rfl)
          rcases j with _ | j
          · obtain rfl : t = 3 := by simpa using ht.symm
            exact (show Tryd.prog.wantsStandIn 3 = false by kernel_rfl)
          rcases j with _ | j
          · obtain rfl : t = 3 := by simpa using ht.symm
            exact (show Tryd.prog.wantsStandIn 3 = false by kernel_rfl)
          rcases j with _ | j
          · obtain rfl : t = 3 := by simpa using ht.symm
            exact (show Tryd.prog.wantsStandIn 3 = false by kernel_rfl)
          simp at ht⟩)
    (by kernel_rfl)
#print axioms tableDiffers_holds
end Go.Proofs.YthkihocapdfonaaDoor

/- The contracts of chapter 39, second part -/
import Derived.Test.YtjbgckjcbmmobaaKE
import Derived.Test.YtjbgckjcbmmobaaKF
import Derived.Test.YtjbgckjcbmmobaaRows
set_option linter.unusedVariables false
set_option linter.unusedSimpArgs false
/- The contracts of chapter 39: the reference's cycles. -/
set_option maxRecDepth 100000
set_option linter.unusedSimpArgs false
namespace Go.Proofs.Ytjbgckjcbmmobaa
open Go.Vai Go Go.Proofs

/-- What 'extended' returns. -/
def extV (n : Nat) (p : List Int) (o : Option (List Int)) : AV := match o with
  | some q => .tup [SL q, B true]
  | none => if n = 0 then .tup [SL p, B false] else .tup [.new 3 1 [], B false]
theorem extended_ev (l : List Deb) (hl : l.length ≤ 1000) : ∀ (n : Nat) (p : List Int), PathOK p → p.length + n ≤ 8 → Ev Try.prog 57 [DL l, SL p, I ((p.length + n : Nat) : Int)] (extV n p (extF (owF l) n p)) := by
  intro n
  induction n with
  | zero =>
    intro p hp h8
    have hpos := hp.pos
    have hn : ((p.length : Int) - 1).toNat = p.length - 1 := by omega
    refine ev_of Try.func57 rfl (by kernel_rfl) mo (Nat.le_of_ble_eq_true rfl) ?_
    simp -implicitDefEqProofs (disch := omega) only [go_sem, ↓reduceIte, Nat.reduceEqDiff, Nat.reduceMul, Nat.reduceAdd, Nat.reduceDiv, Nat.reduceBEq, Nat.reduceLeDiff, Int.reduceToNat, Int.reduceNe, Int.reduceEq, Int.reduceLT, Int.reduceLE, Int.reduceBEq, Int.reduceBNe, ne_eq, not_true_eq_false, not_false_eq_true, decide_true, decide_false, List.length_map, Try.ntmps57, hn]
    refine callC_at (owes_ev l _ _ (by omega)) ?_
    simp -implicitDefEqProofs (disch := omega) only [go_sem, ↓reduceIte, Nat.reduceEqDiff, Nat.reduceMul, Nat.reduceAdd, Nat.reduceDiv, Nat.reduceBEq, Nat.reduceLeDiff, Int.reduceToNat, Int.reduceNe, Int.reduceEq, Int.reduceLT, Int.reduceLE, Int.reduceBEq, Int.reduceBNe, ne_eq, not_true_eq_false, not_false_eq_true, decide_true, decide_false, List.length_map, Try.results57]
    rw [extF]
    by_cases h : 0 < owF l (gd p (p.length - 1)) (gd p 0)
    · rw [if_pos h, extV]; simp [h]
    · rw [if_neg h, extV]; simp [h]
  | succ n ih =>
    intro p hp h8
    have hpos := hp.pos
    have hn : ((p.length : Int) - 1).toNat = p.length - 1 := by omega
    have h0 := hp.at 0 hpos
    refine ev_of Try.func57 rfl (by kernel_rfl) mo (Nat.le_of_ble_eq_true rfl) ?_
    simp -implicitDefEqProofs (disch := omega) only [go_sem, ↓reduceIte, Nat.reduceEqDiff, Nat.reduceMul, Nat.reduceAdd, Nat.reduceDiv, Nat.reduceBEq, Nat.reduceLeDiff, Int.reduceToNat, Int.reduceNe, Int.reduceEq, Int.reduceLT, Int.reduceLE, Int.reduceBEq, Int.reduceBNe, ne_eq, not_true_eq_false, not_false_eq_true, decide_true, decide_false, List.length_map, Try.ntmps57, hn]
    refine branch_r (by omega) ?_
    simp -implicitDefEqProofs (disch := omega) only [go_sem, ↓reduceIte, Nat.reduceEqDiff, Nat.reduceMul, Nat.reduceAdd, Nat.reduceDiv, Nat.reduceBEq, Nat.reduceLeDiff, Int.reduceToNat, Int.reduceNe, Int.reduceEq, Int.reduceLT, Int.reduceLE, Int.reduceBEq, Int.reduceBNe, ne_eq, not_true_eq_false, not_false_eq_true, decide_true, decide_false, List.length_map]
    refine loopC_mk (fun k E σ => ∃ c : Int, c + k = 8 ∧ gd p 0 < c ∧ E 0 = DL l ∧ E 1 = SL p ∧ E 2 = I ((p.length + (n + 1) : Nat) : Int) ∧ E 8 = I (gd p (p.length - 1)) ∧ E 9 = I c ∧
      extF (owF l) (n + 1) p = firstS (fun c => if 0 < owF l (gd p (p.length - 1)) c ∧ c ∉ p then extF (owF l) n (p ++ [c]) else none) c k) (7 - gd p 0).toNat ⟨gd p 0 + 1, by omega, by omega, ?_⟩ ?_
    · simp -implicitDefEqProofs (disch := omega) only [go_sem, ↓reduceIte, Nat.reduceEqDiff, Nat.reduceMul, Nat.reduceAdd, Nat.reduceDiv, Nat.reduceBEq, Nat.reduceLeDiff, Int.reduceToNat, Int.reduceNe, Int.reduceEq, Int.reduceLT, Int.reduceLE, Int.reduceBEq, Int.reduceBNe, ne_eq, not_true_eq_false, not_false_eq_true, decide_true, decide_false, List.length_map]
      rw [extF]
    · rintro k E σ ⟨c, hck, hc0, h0', h1, h2, h8', h9, hx⟩
      simp -implicitDefEqProofs (disch := omega) only [go_sem, ↓reduceIte, Nat.reduceEqDiff, Nat.reduceMul, Nat.reduceAdd, Nat.reduceDiv, Nat.reduceBEq, Nat.reduceLeDiff, Int.reduceToNat, Int.reduceNe, Int.reduceEq, Int.reduceLT, Int.reduceLE, Int.reduceBEq, Int.reduceBNe, ne_eq, not_true_eq_false, not_false_eq_true, decide_true, decide_false, List.length_map, h0', h1, h2, h8', h9]
      refine branch_mk (fun hc => ?_) (fun hc => ?_)
      · obtain ⟨k, rfl⟩ : ∃ m, k = m + 1 := ⟨k - 1, by omega⟩
        rw [firstS] at hx
        simp -implicitDefEqProofs (disch := omega) only [go_sem, ↓reduceIte, Nat.reduceEqDiff, Nat.reduceMul, Nat.reduceAdd, Nat.reduceDiv, Nat.reduceBEq, Nat.reduceLeDiff, Int.reduceToNat, Int.reduceNe, Int.reduceEq, Int.reduceLT, Int.reduceLE, Int.reduceBEq, Int.reduceBNe, ne_eq, not_true_eq_false, not_false_eq_true, decide_true, decide_false, List.length_map, h0', h1, h2, h8', h9]
        refine callC_at (owes_ev l _ _ (by omega)) ?_
        simp -implicitDefEqProofs (disch := omega) only [go_sem, ↓reduceIte, Nat.reduceEqDiff, Nat.reduceMul, Nat.reduceAdd, Nat.reduceDiv, Nat.reduceBEq, Nat.reduceLeDiff, Int.reduceToNat, Int.reduceNe, Int.reduceEq, Int.reduceLT, Int.reduceLE, Int.reduceBEq, Int.reduceBNe, ne_eq, not_true_eq_false, not_false_eq_true, decide_true, decide_false, List.length_map, h0', h1, h2, h8', h9]
        refine branch_mk (fun hb => ?_) (fun hb => ?_)
        · simp -implicitDefEqProofs (disch := omega) only [go_sem, ↓reduceIte, Nat.reduceEqDiff, Nat.reduceMul, Nat.reduceAdd, Nat.reduceDiv, Nat.reduceBEq, Nat.reduceLeDiff, Int.reduceToNat, Int.reduceNe, Int.reduceEq, Int.reduceLT, Int.reduceLE, Int.reduceBEq, Int.reduceBNe, ne_eq, not_true_eq_false, not_false_eq_true, decide_true, decide_false, List.length_map, h0', h1, h2, h8', h9, hb]
          refine callC_at (has_ev p c (by omega)) ?_
          simp -implicitDefEqProofs (disch := omega) only [go_sem, ↓reduceIte, Nat.reduceEqDiff, Nat.reduceMul, Nat.reduceAdd, Nat.reduceDiv, Nat.reduceBEq, Nat.reduceLeDiff, Int.reduceToNat, Int.reduceNe, Int.reduceEq, Int.reduceLT, Int.reduceLE, Int.reduceBEq, Int.reduceBNe, ne_eq, not_true_eq_false, not_false_eq_true, decide_true, decide_false, List.length_map, h0', h1, h2, h8', h9, hb]
          refine branch_mk (fun hm => ?_) (fun hm => ?_)
          · rw [if_pos ⟨hb, hm⟩] at hx
            simp -implicitDefEqProofs (disch := omega) only [go_sem, ↓reduceIte, Nat.reduceEqDiff, Nat.reduceMul, Nat.reduceAdd, Nat.reduceDiv, Nat.reduceBEq, Nat.reduceLeDiff, Int.reduceToNat, Int.reduceNe, Int.reduceEq, Int.reduceLT, Int.reduceLE, Int.reduceBEq, Int.reduceBNe, ne_eq, not_true_eq_false, not_false_eq_true, decide_true, decide_false, List.length_map, h0', h1, h2, h8', h9, hb]
            refine callC_sem rfl ?_
            refine freeze_op [121635632] ?_
            simp -implicitDefEqProofs (disch := omega) only [go_sem, ↓reduceIte, Nat.reduceEqDiff, Nat.reduceMul, Nat.reduceAdd, Nat.reduceDiv, Nat.reduceBEq, Nat.reduceLeDiff, Int.reduceToNat, Int.reduceNe, Int.reduceEq, Int.reduceLT, Int.reduceLE, Int.reduceBEq, Int.reduceBNe, ne_eq, not_true_eq_false, not_false_eq_true, decide_true, decide_false, List.length_map, h0', h1, h2, h8', h9, hb]
            have hp' := hp.snoc (c := c) (by omega) (by omega) hm
            have hih := ih (p ++ [c]) hp' (by simp; omega)
            rw [show ((p ++ [c]).length + n : Nat) = p.length + (n + 1) from by simp; omega] at hih
            revert hx hih
            cases extF (owF l) n (p ++ [c]) with
            | some q =>
              intro hx hih
              refine callC_at hih ?_
              simp -implicitDefEqProofs (disch := omega) only [go_sem, ↓reduceIte, Nat.reduceEqDiff, Nat.reduceMul, Nat.reduceAdd, Nat.reduceDiv, Nat.reduceBEq, Nat.reduceLeDiff, Int.reduceToNat, Int.reduceNe, Int.reduceEq, Int.reduceLT, Int.reduceLE, Int.reduceBEq, Int.reduceBNe, ne_eq, not_true_eq_false, not_false_eq_true, decide_true, decide_false, List.length_map, h0', h1, h2, h8', h9, hb, extV, Try.results57]
              rw [hx]
            | none =>
              intro hx hih
              cases n with
              | zero =>
                refine callC_at hih ?_
                simp -implicitDefEqProofs (disch := omega) only [go_sem, ↓reduceIte, Nat.reduceEqDiff, Nat.reduceMul, Nat.reduceAdd, Nat.reduceDiv, Nat.reduceBEq, Nat.reduceLeDiff, Int.reduceToNat, Int.reduceNe, Int.reduceEq, Int.reduceLT, Int.reduceLE, Int.reduceBEq, Int.reduceBNe, ne_eq, not_true_eq_false, not_false_eq_true, decide_true, decide_false, List.length_map, h0', h1, h2, h8', h9, hb, extV]
                refine againQ_mk k (by omega) ⟨c + 1, by omega, by omega, ?_⟩
                simp -implicitDefEqProofs (disch := omega) only [go_sem, ↓reduceIte, Nat.reduceEqDiff, Nat.reduceMul, Nat.reduceAdd, Nat.reduceDiv, Nat.reduceBEq, Nat.reduceLeDiff, Int.reduceToNat, Int.reduceNe, Int.reduceEq, Int.reduceLT, Int.reduceLE, Int.reduceBEq, Int.reduceBNe, ne_eq, not_true_eq_false, not_false_eq_true, decide_true, decide_false, List.length_map, h0', h1, h2, h8', h9, hb]
                exact hx
              | succ n =>
                refine callC_at hih ?_
                simp -implicitDefEqProofs (disch := omega) only [go_sem, ↓reduceIte, Nat.reduceEqDiff, Nat.reduceMul, Nat.reduceAdd, Nat.reduceDiv, Nat.reduceBEq, Nat.reduceLeDiff, Int.reduceToNat, Int.reduceNe, Int.reduceEq, Int.reduceLT, Int.reduceLE, Int.reduceBEq, Int.reduceBNe, ne_eq, not_true_eq_false, not_false_eq_true, decide_true, decide_false, List.length_map, h0', h1, h2, h8', h9, hb, extV]
                refine againQ_mk k (by omega) ⟨c + 1, by omega, by omega, ?_⟩
                simp -implicitDefEqProofs (disch := omega) only [go_sem, ↓reduceIte, Nat.reduceEqDiff, Nat.reduceMul, Nat.reduceAdd, Nat.reduceDiv, Nat.reduceBEq, Nat.reduceLeDiff, Int.reduceToNat, Int.reduceNe, Int.reduceEq, Int.reduceLT, Int.reduceLE, Int.reduceBEq, Int.reduceBNe, ne_eq, not_true_eq_false, not_false_eq_true, decide_true, decide_false, List.length_map, h0', h1, h2, h8', h9, hb]
                exact hx
          · rw [if_neg (fun e => hm e.2)] at hx
            simp -implicitDefEqProofs (disch := omega) only [go_sem, ↓reduceIte, Nat.reduceEqDiff, Nat.reduceMul, Nat.reduceAdd, Nat.reduceDiv, Nat.reduceBEq, Nat.reduceLeDiff, Int.reduceToNat, Int.reduceNe, Int.reduceEq, Int.reduceLT, Int.reduceLE, Int.reduceBEq, Int.reduceBNe, ne_eq, not_true_eq_false, not_false_eq_true, decide_true, decide_false, List.length_map, h0', h1, h2, h8', h9, hb]
            refine againQ_mk k (by omega) ⟨c + 1, by omega, by omega, ?_⟩
            simp -implicitDefEqProofs (disch := omega) only [go_sem, ↓reduceIte, Nat.reduceEqDiff, Nat.reduceMul, Nat.reduceAdd, Nat.reduceDiv, Nat.reduceBEq, Nat.reduceLeDiff, Int.reduceToNat, Int.reduceNe, Int.reduceEq, Int.reduceLT, Int.reduceLE, Int.reduceBEq, Int.reduceBNe, ne_eq, not_true_eq_false, not_false_eq_true, decide_true, decide_false, List.length_map, h0', h1, h2, h8', h9, hb]
            exact hx
        · rw [if_neg (fun e => hb e.1)] at hx
          simp -implicitDefEqProofs (disch := omega) only [go_sem, ↓reduceIte, Nat.reduceEqDiff, Nat.reduceMul, Nat.reduceAdd, Nat.reduceDiv, Nat.reduceBEq, Nat.reduceLeDiff, Int.reduceToNat, Int.reduceNe, Int.reduceEq, Int.reduceLT, Int.reduceLE, Int.reduceBEq, Int.reduceBNe, ne_eq, not_true_eq_false, not_false_eq_true, decide_true, decide_false, List.length_map, h0', h1, h2, h8', h9, hb]
          refine againQ_mk k (by omega) ⟨c + 1, by omega, by omega, ?_⟩
          simp -implicitDefEqProofs (disch := omega) only [go_sem, ↓reduceIte, Nat.reduceEqDiff, Nat.reduceMul, Nat.reduceAdd, Nat.reduceDiv, Nat.reduceBEq, Nat.reduceLeDiff, Int.reduceToNat, Int.reduceNe, Int.reduceEq, Int.reduceLT, Int.reduceLE, Int.reduceBEq, Int.reduceBNe, ne_eq, not_true_eq_false, not_false_eq_true, decide_true, decide_false, List.length_map, h0', h1, h2, h8', h9, hb]
          exact hx
      · have : k = 0 := by omega
        subst this
        rw [firstS] at hx
        simp -implicitDefEqProofs (disch := omega) only [go_sem, ↓reduceIte, Nat.reduceEqDiff, Nat.reduceMul, Nat.reduceAdd, Nat.reduceDiv, Nat.reduceBEq, Nat.reduceLeDiff, Int.reduceToNat, Int.reduceNe, Int.reduceEq, Int.reduceLT, Int.reduceLE, Int.reduceBEq, Int.reduceBNe, ne_eq, not_true_eq_false, not_false_eq_true, decide_true, decide_false, List.length_map, h0', h1, h2, h8', h9, Try.results57]
        rw [hx, extV]; simp
/-- What 'cycle' returns. -/
def cycV (o : Option (List Int)) : AV := match o with
  | some q => .tup [SL q, B true]
  | none => .tup [.new 3 1 [], B false]
theorem cycR_ev (l : List Deb) (hl : l.length ≤ 1000) : Ev Try.prog 43 [DL l] (cycV (cycF (owF l))) := by
  refine ev_of Try.func43 rfl (by kernel_rfl) mo (Nat.le_of_ble_eq_true rfl) ?_
  simp -implicitDefEqProofs (disch := omega) only [go_sem, ↓reduceIte, Nat.reduceEqDiff, Nat.reduceMul, Nat.reduceAdd, Nat.reduceDiv, Nat.reduceBEq, Nat.reduceLeDiff, Int.reduceToNat, Int.reduceNe, Int.reduceEq, Int.reduceLT, Int.reduceLE, Int.reduceBEq, Int.reduceBNe, ne_eq, not_true_eq_false, not_false_eq_true, decide_true, decide_false, List.length_map, Try.ntmps43]
  refine loopC_mk (fun k E σ => ∃ s : Nat, s + k = 9 ∧ 3 ≤ s ∧ E 0 = DL l ∧ E 4 = I s ∧ cycF (owF l) = cycN (owF l) (s - 1) k) 6 ⟨3, by omega, by omega, ?_⟩ ?_
  · simp -implicitDefEqProofs (disch := omega) only [go_sem, ↓reduceIte, Nat.reduceEqDiff, Nat.reduceMul, Nat.reduceAdd, Nat.reduceDiv, Nat.reduceBEq, Nat.reduceLeDiff, Int.reduceToNat, Int.reduceNe, Int.reduceEq, Int.reduceLT, Int.reduceLE, Int.reduceBEq, Int.reduceBNe, ne_eq, not_true_eq_false, not_false_eq_true, decide_true, decide_false, List.length_map]
    exact ⟨rfl, rfl⟩
  · rintro k E σ ⟨s, hs, h3, h0, h4, hx⟩
    simp -implicitDefEqProofs (disch := omega) only [go_sem, ↓reduceIte, Nat.reduceEqDiff, Nat.reduceMul, Nat.reduceAdd, Nat.reduceDiv, Nat.reduceBEq, Nat.reduceLeDiff, Int.reduceToNat, Int.reduceNe, Int.reduceEq, Int.reduceLT, Int.reduceLE, Int.reduceBEq, Int.reduceBNe, ne_eq, not_true_eq_false, not_false_eq_true, decide_true, decide_false, List.length_map, h0, h4]
    refine branch_mk (fun hc => ?_) (fun hc => ?_)
    · obtain ⟨k, rfl⟩ : ∃ m, k = m + 1 := ⟨k - 1, by omega⟩
      rw [cycN] at hx
      simp -implicitDefEqProofs (disch := omega) only [go_sem, ↓reduceIte, Nat.reduceEqDiff, Nat.reduceMul, Nat.reduceAdd, Nat.reduceDiv, Nat.reduceBEq, Nat.reduceLeDiff, Int.reduceToNat, Int.reduceNe, Int.reduceEq, Int.reduceLT, Int.reduceLE, Int.reduceBEq, Int.reduceBNe, ne_eq, not_true_eq_false, not_false_eq_true, decide_true, decide_false, List.length_map, h0, h4]
      refine loopC_mk (fun j E σ => ∃ c : Int, c + j = 8 ∧ 0 ≤ c ∧ E 0 = DL l ∧ E 4 = I s ∧ E 5 = I c ∧ sizeF (owF l) (s - 1) = firstS (fun c => extF (owF l) (s - 1) [c]) c j) 8 ⟨0, by omega, by omega, ?_⟩ ?_
      · simp -implicitDefEqProofs (disch := omega) only [go_sem, ↓reduceIte, Nat.reduceEqDiff, Nat.reduceMul, Nat.reduceAdd, Nat.reduceDiv, Nat.reduceBEq, Nat.reduceLeDiff, Int.reduceToNat, Int.reduceNe, Int.reduceEq, Int.reduceLT, Int.reduceLE, Int.reduceBEq, Int.reduceBNe, ne_eq, not_true_eq_false, not_false_eq_true, decide_true, decide_false, List.length_map, h0, h4]
        rfl
      · clear h0 h4 E σ
        rintro j E σ ⟨c, hj, hc0, h0, h4, h5, hy⟩
        simp -implicitDefEqProofs (disch := omega) only [go_sem, ↓reduceIte, Nat.reduceEqDiff, Nat.reduceMul, Nat.reduceAdd, Nat.reduceDiv, Nat.reduceBEq, Nat.reduceLeDiff, Int.reduceToNat, Int.reduceNe, Int.reduceEq, Int.reduceLT, Int.reduceLE, Int.reduceBEq, Int.reduceBNe, ne_eq, not_true_eq_false, not_false_eq_true, decide_true, decide_false, List.length_map, h0, h4, h5]
        refine branch_mk (fun hc8 => ?_) (fun hc8 => ?_)
        · obtain ⟨j, rfl⟩ : ∃ m, j = m + 1 := ⟨j - 1, by omega⟩
          rw [firstS] at hy
          have hih := extended_ev l hl (s - 1) [c] (pathOK_one hc0 (by omega)) (by simp; omega)
          rw [show ([c].length + (s - 1) : Nat) = s from by simp; omega] at hih
          simp -implicitDefEqProofs (disch := omega) only [go_sem, ↓reduceIte, Nat.reduceEqDiff, Nat.reduceMul, Nat.reduceAdd, Nat.reduceDiv, Nat.reduceBEq, Nat.reduceLeDiff, Int.reduceToNat, Int.reduceNe, Int.reduceEq, Int.reduceLT, Int.reduceLE, Int.reduceBEq, Int.reduceBNe, ne_eq, not_true_eq_false, not_false_eq_true, decide_true, decide_false, List.length_map, h0, h4, h5]
          refine callC_sem rfl ?_
          refine freeze_op [92274992] ?_
          simp -implicitDefEqProofs (disch := omega) only [go_sem, ↓reduceIte, Nat.reduceEqDiff, Nat.reduceMul, Nat.reduceAdd, Nat.reduceDiv, Nat.reduceBEq, Nat.reduceLeDiff, Int.reduceToNat, Int.reduceNe, Int.reduceEq, Int.reduceLT, Int.reduceLE, Int.reduceBEq, Int.reduceBNe, ne_eq, not_true_eq_false, not_false_eq_true, decide_true, decide_false, List.length_map, h0, h4, h5]
          revert hy hih
          cases extF (owF l) (s - 1) [c] with
          | some q =>
            intro hy hih
            rw [hy] at hx
            refine callC_at hih ?_
            simp -implicitDefEqProofs (disch := omega) only [go_sem, ↓reduceIte, Nat.reduceEqDiff, Nat.reduceMul, Nat.reduceAdd, Nat.reduceDiv, Nat.reduceBEq, Nat.reduceLeDiff, Int.reduceToNat, Int.reduceNe, Int.reduceEq, Int.reduceLT, Int.reduceLE, Int.reduceBEq, Int.reduceBNe, ne_eq, not_true_eq_false, not_false_eq_true, decide_true, decide_false, List.length_map, h0, h4, h5, extV, Try.results43]
            rw [hx, cycV]
          | none =>
            intro hy hih
            rw [extV, if_neg (by omega)] at hih
            refine callC_at hih ?_
            simp -implicitDefEqProofs (disch := omega) only [go_sem, ↓reduceIte, Nat.reduceEqDiff, Nat.reduceMul, Nat.reduceAdd, Nat.reduceDiv, Nat.reduceBEq, Nat.reduceLeDiff, Int.reduceToNat, Int.reduceNe, Int.reduceEq, Int.reduceLT, Int.reduceLE, Int.reduceBEq, Int.reduceBNe, ne_eq, not_true_eq_false, not_false_eq_true, decide_true, decide_false, List.length_map, h0, h4, h5]
            refine againQ_mk j (by omega) ⟨c + 1, by omega, by omega, ?_⟩
            simp -implicitDefEqProofs (disch := omega) only [go_sem, ↓reduceIte, Nat.reduceEqDiff, Nat.reduceMul, Nat.reduceAdd, Nat.reduceDiv, Nat.reduceBEq, Nat.reduceLeDiff, Int.reduceToNat, Int.reduceNe, Int.reduceEq, Int.reduceLT, Int.reduceLE, Int.reduceBEq, Int.reduceBNe, ne_eq, not_true_eq_false, not_false_eq_true, decide_true, decide_false, List.length_map, h0, h4, h5]
            exact hy
        · have : j = 0 := by omega
          subst this
          rw [firstS] at hy
          rw [hy] at hx
          simp -implicitDefEqProofs (disch := omega) only [go_sem, ↓reduceIte, Nat.reduceEqDiff, Nat.reduceMul, Nat.reduceAdd, Nat.reduceDiv, Nat.reduceBEq, Nat.reduceLeDiff, Int.reduceToNat, Int.reduceNe, Int.reduceEq, Int.reduceLT, Int.reduceLE, Int.reduceBEq, Int.reduceBNe, ne_eq, not_true_eq_false, not_false_eq_true, decide_true, decide_false, List.length_map, h0, h4, h5]
          refine againQ_mk k (by omega) ⟨s + 1, by omega, by omega, ?_⟩
          simp -implicitDefEqProofs (disch := omega) only [go_sem, ↓reduceIte, Nat.reduceEqDiff, Nat.reduceMul, Nat.reduceAdd, Nat.reduceDiv, Nat.reduceBEq, Nat.reduceLeDiff, Int.reduceToNat, Int.reduceNe, Int.reduceEq, Int.reduceLT, Int.reduceLE, Int.reduceBEq, Int.reduceBNe, ne_eq, not_true_eq_false, not_false_eq_true, decide_true, decide_false, List.length_map, h0, h4, h5]
          refine ⟨by simp, ?_⟩
          rw [show s + 1 - 1 = s - 1 + 1 from by omega]; exact hx
    · have : k = 0 := by omega
      subst this
      simp -implicitDefEqProofs (disch := omega) only [go_sem, ↓reduceIte, Nat.reduceEqDiff, Nat.reduceMul, Nat.reduceAdd, Nat.reduceDiv, Nat.reduceBEq, Nat.reduceLeDiff, Int.reduceToNat, Int.reduceNe, Int.reduceEq, Int.reduceLT, Int.reduceLE, Int.reduceBEq, Int.reduceBNe, ne_eq, not_true_eq_false, not_false_eq_true, decide_true, decide_false, List.length_map, h0, h4, Try.results43]
      rw [hx]; rfl
end Go.Proofs.Ytjbgckjcbmmobaa

/- The contracts of chapter 39: the search for a cycle, a closure that calls itself. -/
set_option maxRecDepth 100000
set_option linter.unusedSimpArgs false
namespace Go.Proofs.Ytjbgckjcbmmobaa
open Go.Vai Go Go.Proofs

abbrev P5 : List AV := [.ptr 90177616 1 0 0, .ptr 90177600 1 0 0, .ptr 90177552 1 0 0, .ptr 90177632 1 0 0]
/-- What the closure is lent: the path, in a cell; the size; the book; itself. -/
abbrev L5 (q es : List Int) (n : Nat) (s : Int) : List (Nat × Blk) :=
  [(90177616, ⟨25, 1, [.own 90177617 1 0 n]⟩), (90177617, ⟨3, 1, es.map I⟩), (90177600, ⟨3, 1, [I s]⟩), (90177552, ⟨59, 1, [.pt (BK q) 0]⟩), (90177632, ⟨69, 1, [.clo 55 P5]⟩)]
abbrev pins5 : List Nat := [90177616, 90177600, 90177552, 90177632]
abbrev LK5 (q : List Int) (s : Int) (c : Int) (es : List Int) (n : Nat) (r : Bool) (es' : List Int) (n' : Nat) : Prop :=
  LOK Try.prog 55 (inI pins5) (I c :: P5) (stO (L5 q es n s)) (B r) (stO (L5 q es' n' s))
def foldS (f : Int → List Int → List Int) (c : Int) : Nat → List Int → List Int
  | 0, b => b
  | k + 1, b => foldS f (c + 1) k (f c b)
/-- What is left of the path's block, if no cycle begins so. -/
def leftG (W : Int → Int → Int) : Nat → List Int → List Int
  | 0, p => p
  | n + 1, p => foldS (fun c b => if 0 < W (gd p (p.length - 1)) c ∧ c ∉ p then leftG W n (p ++ [c]) else b) (gd p 0 + 1) (7 - gd p 0).toNat p
theorem foldS_inv {f : Int → List Int → List Int} {J : List Int → Prop} (h : ∀ c b, J b → J (f c b)) : ∀ (k : Nat) (c : Int) (b : List Int), J b → J (foldS f c k b)
  | 0, _, _, hb => hb
  | k + 1, c, b, hb => foldS_inv h k (c + 1) _ (h c b hb)
theorem leftG_take (W : Int → Int → Int) : ∀ (n : Nat) (p : List Int), (leftG W n p).take p.length = p ∧ (leftG W n p).length ≤ p.length + n
  | 0, p => by simp [leftG]
  | n + 1, p => by
    rw [leftG]
    refine foldS_inv (J := fun b => b.take p.length = p ∧ b.length ≤ p.length + (n + 1)) (fun c b hb => ?_) _ _ _ (by simp)
    split
    · have := leftG_take W n (p ++ [c])
      rw [List.length_append, List.length_singleton] at this
      refine ⟨?_, by omega⟩
      have e := congrArg (List.take p.length) this.1
      rw [List.take_take, Nat.min_eq_left (by omega), List.take_left'] at e
      · exact e
      · rfl
    · exact hb
abbrev IV5 (q : List Int) (s : Int) (c : Int) (es : List Int) (n : Nat) (v : Int) (E : Env) (σ : Store) : Prop :=
  E 0 = I c ∧ E 1 = .ptr 90177616 1 0 0 ∧ E 2 = .ptr 90177600 1 0 0 ∧ E 3 = .ptr 90177552 1 0 0 ∧ E 4 = .ptr 90177632 1 0 0 ∧ E 7 = I v ∧
  σ 90177616 = some ⟨25, 1, [.own 90177617 1 0 n]⟩ ∧ σ 90177617 = some ⟨3, 1, es.map I⟩ ∧ σ 90177600 = some ⟨3, 1, [I s]⟩ ∧ σ 90177552 = some ⟨59, 1, [.pt (BK q) 0]⟩ ∧ σ 90177632 = some ⟨69, 1, [.clo 55 P5]⟩
theorem ext5 (q : List Int) (hq : q.length = 64) (s : Nat) (hs : s ≤ 8) : ∀ (n : Nat) (p : List Int) (c : Int), PathOK (p ++ [c]) → p.length + 1 + n = s → ∀ es : List Int, es.take p.length = p → es.length ≤ 8 →
    match extF (bkF q) n (p ++ [c]) with
    | some r => LK5 q s c es p.length true r r.length
    | none => LK5 q s c es p.length false (leftG (bkF q) n (p ++ [c])) p.length := by
  intro n
  induction n with
  | zero =>
    intro p c hp hl es he h8
    have hc := hp.at p.length (by simp)
    have h0 := hp.at 0 (by simp)
    rw [gd_append_right _ _ _ (Nat.le_refl _), Nat.sub_self, gd_cons_zero] at hc
    have hpl : p.length ≤ es.length := by have := congrArg List.length he; simp at this; omega
    have hlast : gd (p ++ [c]) ((p ++ [c]).length - 1) = c := by rw [gd_append_right _ _ _ (by simp)]; simp
    rw [extF, hlast]
    by_cases hw : 0 < bkF q c (gd (p ++ [c]) 0)
    · rw [if_pos hw]
      refine lok_of pins5 Try.func55 rfl (by kernel_rfl) mo (Nat.le_of_ble_eq_true rfl) rfl (by kernel_rfl) (by kernel_rfl) ?_
      simp -implicitDefEqProofs (disch := omega) only [go_sem, ↓reduceIte, Nat.reduceEqDiff, Nat.reduceMul, Nat.reduceAdd, Nat.reduceDiv, Nat.reduceBEq, Nat.reduceLeDiff, Int.reduceToNat, Int.reduceNe, Int.reduceEq, Int.reduceLT, Int.reduceLE, Int.reduceBEq, Int.reduceBNe, ne_eq, not_true_eq_false, not_false_eq_true, decide_true, decide_false, List.length_map, Try.ntmps55, he]
      refine branch_l (by omega) ?_
      simp -implicitDefEqProofs (disch := omega) only [go_sem, ↓reduceIte, Nat.reduceEqDiff, Nat.reduceMul, Nat.reduceAdd, Nat.reduceDiv, Nat.reduceBEq, Nat.reduceLeDiff, Int.reduceToNat, Int.reduceNe, Int.reduceEq, Int.reduceLT, Int.reduceLE, Int.reduceBEq, Int.reduceBNe, ne_eq, not_true_eq_false, not_false_eq_true, decide_true, decide_false, List.length_map, he, hq]
      refine branch_l hw ?_
      simp -implicitDefEqProofs (disch := omega) only [go_sem, ↓reduceIte, Nat.reduceEqDiff, Nat.reduceMul, Nat.reduceAdd, Nat.reduceDiv, Nat.reduceBEq, Nat.reduceLeDiff, Int.reduceToNat, Int.reduceNe, Int.reduceEq, Int.reduceLT, Int.reduceLE, Int.reduceBEq, Int.reduceBNe, ne_eq, not_true_eq_false, not_false_eq_true, decide_true, decide_false, List.length_map, he, hq, Try.results55]
    · rw [if_neg hw, leftG]
      refine lok_of pins5 Try.func55 rfl (by kernel_rfl) mo (Nat.le_of_ble_eq_true rfl) rfl (by kernel_rfl) (by kernel_rfl) ?_
      simp -implicitDefEqProofs (disch := omega) only [go_sem, ↓reduceIte, Nat.reduceEqDiff, Nat.reduceMul, Nat.reduceAdd, Nat.reduceDiv, Nat.reduceBEq, Nat.reduceLeDiff, Int.reduceToNat, Int.reduceNe, Int.reduceEq, Int.reduceLT, Int.reduceLE, Int.reduceBEq, Int.reduceBNe, ne_eq, not_true_eq_false, not_false_eq_true, decide_true, decide_false, List.length_map, Try.ntmps55, he]
      refine branch_l (by omega) ?_
      simp -implicitDefEqProofs (disch := omega) only [go_sem, ↓reduceIte, Nat.reduceEqDiff, Nat.reduceMul, Nat.reduceAdd, Nat.reduceDiv, Nat.reduceBEq, Nat.reduceLeDiff, Int.reduceToNat, Int.reduceNe, Int.reduceEq, Int.reduceLT, Int.reduceLE, Int.reduceBEq, Int.reduceBNe, ne_eq, not_true_eq_false, not_false_eq_true, decide_true, decide_false, List.length_map, he, hq]
      refine branch_r hw ?_
      simp -implicitDefEqProofs (disch := omega) only [go_sem, ↓reduceIte, Nat.reduceEqDiff, Nat.reduceMul, Nat.reduceAdd, Nat.reduceDiv, Nat.reduceBEq, Nat.reduceLeDiff, Int.reduceToNat, Int.reduceNe, Int.reduceEq, Int.reduceLT, Int.reduceLE, Int.reduceBEq, Int.reduceBNe, ne_eq, not_true_eq_false, not_false_eq_true, decide_true, decide_false, List.length_map, he, hq]
      refine loopC_mk (fun k E σ => k = 0 ∧ IV5 q s c (p ++ [c]) (p.length + 1) (gd (p ++ [c]) 0 + 1) E σ) 0 ⟨rfl, ?_⟩ ?_
      · simp -implicitDefEqProofs (disch := omega) only [go_sem, ↓reduceIte, Nat.reduceEqDiff, Nat.reduceMul, Nat.reduceAdd, Nat.reduceDiv, Nat.reduceBEq, Nat.reduceLeDiff, Int.reduceToNat, Int.reduceNe, Int.reduceEq, Int.reduceLT, Int.reduceLE, Int.reduceBEq, Int.reduceBNe, ne_eq, not_true_eq_false, not_false_eq_true, decide_true, decide_false, List.length_map, he, hq, IV5]
      · rintro k E σ ⟨rfl, e0, e1, e2, e3, e4, e7, m1, m2, m3, m4, m5⟩
        simp -implicitDefEqProofs (disch := omega) only [go_sem, ↓reduceIte, Nat.reduceEqDiff, Nat.reduceMul, Nat.reduceAdd, Nat.reduceDiv, Nat.reduceBEq, Nat.reduceLeDiff, Int.reduceToNat, Int.reduceNe, Int.reduceEq, Int.reduceLT, Int.reduceLE, Int.reduceBEq, Int.reduceBNe, ne_eq, not_true_eq_false, not_false_eq_true, decide_true, decide_false, List.length_map, e0, e1, e2, e3, e4, e7, m1, m2, m3, m4, m5]
        refine branch_mk (fun hb => ?_) (fun hb => ?_)
        · simp -implicitDefEqProofs (disch := omega) only [go_sem, ↓reduceIte, Nat.reduceEqDiff, Nat.reduceMul, Nat.reduceAdd, Nat.reduceDiv, Nat.reduceBEq, Nat.reduceLeDiff, Int.reduceToNat, Int.reduceNe, Int.reduceEq, Int.reduceLT, Int.reduceLE, Int.reduceBEq, Int.reduceBNe, ne_eq, not_true_eq_false, not_false_eq_true, decide_true, decide_false, List.length_map, e0, e1, e2, e3, e4, e7, m1, m2, m3, m4, m5]
          refine branch_r (by omega) ?_
          simp -implicitDefEqProofs (disch := omega) only [go_sem, ↓reduceIte, Nat.reduceEqDiff, Nat.reduceMul, Nat.reduceAdd, Nat.reduceDiv, Nat.reduceBEq, Nat.reduceLeDiff, Int.reduceToNat, Int.reduceNe, Int.reduceEq, Int.reduceLT, Int.reduceLE, Int.reduceBEq, Int.reduceBNe, ne_eq, not_true_eq_false, not_false_eq_true, decide_true, decide_false, List.length_map, e0, e1, e2, e3, e4, e7, m1, m2, m3, m4, m5, Try.results55]
          rw [show ((p.length + 1 : Nat) - 1 : Int).toNat - 0 = p.length from by omega]
        · simp -implicitDefEqProofs (disch := omega) only [go_sem, ↓reduceIte, Nat.reduceEqDiff, Nat.reduceMul, Nat.reduceAdd, Nat.reduceDiv, Nat.reduceBEq, Nat.reduceLeDiff, Int.reduceToNat, Int.reduceNe, Int.reduceEq, Int.reduceLT, Int.reduceLE, Int.reduceBEq, Int.reduceBNe, ne_eq, not_true_eq_false, not_false_eq_true, decide_true, decide_false, List.length_map, e0, e1, e2, e3, e4, e7, m1, m2, m3, m4, m5, Try.results55]
          rw [show ((p.length + 1 : Nat) - 1 : Int).toNat - 0 = p.length from by omega]
  | succ n ih =>
    intro p c hp hl es he h8
    have hc := hp.at p.length (by simp)
    have h0 := hp.at 0 (by simp)
    rw [gd_append_right _ _ _ (Nat.le_refl _), Nat.sub_self, gd_cons_zero] at hc
    have hpl : p.length ≤ es.length := by have := congrArg List.length he; simp at this; omega
    have hlast : gd (p ++ [c]) ((p ++ [c]).length - 1) = c := by rw [gd_append_right _ _ _ (by simp)]; simp
    have hX : extF (bkF q) (n + 1) (p ++ [c]) = firstS (fun d => if 0 < bkF q c d ∧ d ∉ p ++ [c] then extF (bkF q) n (p ++ [c] ++ [d]) else none) (gd (p ++ [c]) 0 + 1) (7 - gd (p ++ [c]) 0).toNat := by rw [extF, hlast]
    have hG : leftG (bkF q) (n + 1) (p ++ [c]) = foldS (fun d b => if 0 < bkF q c d ∧ d ∉ p ++ [c] then leftG (bkF q) n (p ++ [c] ++ [d]) else b) (gd (p ++ [c]) 0 + 1) (7 - gd (p ++ [c]) 0).toNat (p ++ [c]) := by rw [leftG, hlast]
    have key : ∀ (r : Bool) (es' : List Int) (n' : Nat), ((∃ x, extF (bkF q) (n + 1) (p ++ [c]) = some x ∧ r = true ∧ es' = x ∧ n' = x.length) ∨ (extF (bkF q) (n + 1) (p ++ [c]) = none ∧ r = false ∧ es' = leftG (bkF q) (n + 1) (p ++ [c]) ∧ n' = p.length)) → LK5 q s c es p.length r es' n' := by
      intro r es' n' hr
      refine lok_of pins5 Try.func55 rfl (by kernel_rfl) mo (Nat.le_of_ble_eq_true rfl) rfl (by kernel_rfl) (by kernel_rfl) ?_
      simp -implicitDefEqProofs (disch := omega) only [go_sem, ↓reduceIte, Nat.reduceEqDiff, Nat.reduceMul, Nat.reduceAdd, Nat.reduceDiv, Nat.reduceBEq, Nat.reduceLeDiff, Int.reduceToNat, Int.reduceNe, Int.reduceEq, Int.reduceLT, Int.reduceLE, Int.reduceBEq, Int.reduceBNe, ne_eq, not_true_eq_false, not_false_eq_true, decide_true, decide_false, List.length_map, Try.ntmps55, he]
      refine branch_r (by omega) ?_
      simp -implicitDefEqProofs (disch := omega) only [go_sem, ↓reduceIte, Nat.reduceEqDiff, Nat.reduceMul, Nat.reduceAdd, Nat.reduceDiv, Nat.reduceBEq, Nat.reduceLeDiff, Int.reduceToNat, Int.reduceNe, Int.reduceEq, Int.reduceLT, Int.reduceLE, Int.reduceBEq, Int.reduceBNe, ne_eq, not_true_eq_false, not_false_eq_true, decide_true, decide_false, List.length_map, he, hq]
      refine loopC_mk (fun k E σ => ∃ (v : Int) (b : List Int), v + k = 8 ∧ gd (p ++ [c]) 0 < v ∧ b.take (p.length + 1) = p ++ [c] ∧ b.length ≤ 8 ∧ IV5 q s c b (p.length + 1) v E σ ∧
        extF (bkF q) (n + 1) (p ++ [c]) = firstS (fun d => if 0 < bkF q c d ∧ d ∉ p ++ [c] then extF (bkF q) n (p ++ [c] ++ [d]) else none) v k ∧
        leftG (bkF q) (n + 1) (p ++ [c]) = foldS (fun d b => if 0 < bkF q c d ∧ d ∉ p ++ [c] then leftG (bkF q) n (p ++ [c] ++ [d]) else b) v k b) (7 - gd (p ++ [c]) 0).toNat ⟨gd (p ++ [c]) 0 + 1, p ++ [c], by omega, by omega, ?_, ?_, ?_, hX, hG⟩ ?_
      · rw [List.take_of_length_le (by simp)]
      · rw [List.length_append, List.length_singleton]; omega
      · simp -implicitDefEqProofs (disch := omega) only [go_sem, ↓reduceIte, Nat.reduceEqDiff, Nat.reduceMul, Nat.reduceAdd, Nat.reduceDiv, Nat.reduceBEq, Nat.reduceLeDiff, Int.reduceToNat, Int.reduceNe, Int.reduceEq, Int.reduceLT, Int.reduceLE, Int.reduceBEq, Int.reduceBNe, ne_eq, not_true_eq_false, not_false_eq_true, decide_true, decide_false, List.length_map, he, hq, IV5]
      · rintro k E σ ⟨v, b, hvk, hv0, hb1, hb8, ⟨e0, e1, e2, e3, e4, e7, m1, m2, m3, m4, m5⟩, hx, hg⟩
        have hbl : p.length + 1 ≤ b.length := by have := congrArg List.length hb1; simp at this; omega
        simp -implicitDefEqProofs (disch := omega) only [go_sem, ↓reduceIte, Nat.reduceEqDiff, Nat.reduceMul, Nat.reduceAdd, Nat.reduceDiv, Nat.reduceBEq, Nat.reduceLeDiff, Int.reduceToNat, Int.reduceNe, Int.reduceEq, Int.reduceLT, Int.reduceLE, Int.reduceBEq, Int.reduceBNe, ne_eq, not_true_eq_false, not_false_eq_true, decide_true, decide_false, List.length_map, e0, e1, e2, e3, e4, e7, m1, m2, m3, m4, m5]
        refine branch_mk (fun hv => ?_) (fun hv => ?_)
        · obtain ⟨k, rfl⟩ : ∃ m, k = m + 1 := ⟨k - 1, by omega⟩
          rw [firstS] at hx
          rw [foldS] at hg
          simp -implicitDefEqProofs (disch := omega) only [go_sem, ↓reduceIte, Nat.reduceEqDiff, Nat.reduceMul, Nat.reduceAdd, Nat.reduceDiv, Nat.reduceBEq, Nat.reduceLeDiff, Int.reduceToNat, Int.reduceNe, Int.reduceEq, Int.reduceLT, Int.reduceLE, Int.reduceBEq, Int.reduceBNe, ne_eq, not_true_eq_false, not_false_eq_true, decide_true, decide_false, List.length_map, e0, e1, e2, e3, e4, e7, m1, m2, m3, m4, m5]
          refine branch_l (by omega) ?_
          simp -implicitDefEqProofs (disch := omega) only [go_sem, ↓reduceIte, Nat.reduceEqDiff, Nat.reduceMul, Nat.reduceAdd, Nat.reduceDiv, Nat.reduceBEq, Nat.reduceLeDiff, Int.reduceToNat, Int.reduceNe, Int.reduceEq, Int.reduceLT, Int.reduceLE, Int.reduceBEq, Int.reduceBNe, ne_eq, not_true_eq_false, not_false_eq_true, decide_true, decide_false, List.length_map, e0, e1, e2, e3, e4, e7, m1, m2, m3, m4, m5, hq]
          refine branch_mk (fun hw => ?_) (fun hw => ?_)
          · simp -implicitDefEqProofs (disch := omega) only [go_sem, ↓reduceIte, Nat.reduceEqDiff, Nat.reduceMul, Nat.reduceAdd, Nat.reduceDiv, Nat.reduceBEq, Nat.reduceLeDiff, Int.reduceToNat, Int.reduceNe, Int.reduceEq, Int.reduceLT, Int.reduceLE, Int.reduceBEq, Int.reduceBNe, ne_eq, not_true_eq_false, not_false_eq_true, decide_true, decide_false, List.length_map, e0, e1, e2, e3, e4, e7, m1, m2, m3, m4, m5, hb1, hbl]
            refine callC_at (containsI_ev (p ++ [c]) v (by rw [List.length_append, List.length_singleton]; omega)) ?_
            simp -implicitDefEqProofs (disch := omega) only [go_sem, ↓reduceIte, Nat.reduceEqDiff, Nat.reduceMul, Nat.reduceAdd, Nat.reduceDiv, Nat.reduceBEq, Nat.reduceLeDiff, Int.reduceToNat, Int.reduceNe, Int.reduceEq, Int.reduceLT, Int.reduceLE, Int.reduceBEq, Int.reduceBNe, ne_eq, not_true_eq_false, not_false_eq_true, decide_true, decide_false, List.length_map, e0, e1, e2, e3, e4, e7, m1, m2, m3, m4, m5, hb1]
            refine branch_mk (fun hm => ?_) (fun hm => ?_)
            · rw [if_pos ⟨hw, hm⟩] at hx hg
              simp -implicitDefEqProofs (disch := omega) only [go_sem, ↓reduceIte, Nat.reduceEqDiff, Nat.reduceMul, Nat.reduceAdd, Nat.reduceDiv, Nat.reduceBEq, Nat.reduceLeDiff, Int.reduceToNat, Int.reduceNe, Int.reduceEq, Int.reduceLT, Int.reduceLE, Int.reduceBEq, Int.reduceBNe, ne_eq, not_true_eq_false, not_false_eq_true, decide_true, decide_false, List.length_map, e0, e1, e2, e3, e4, e7, m1, m2, m3, m4, m5, hb1]
              refine callC_sem rfl ?_
              have hp' := hp.snoc (c := v) (by omega) (by omega) hm
              have hih := ih (p ++ [c]) v hp' (by rw [List.length_append, List.length_singleton]; omega) b (by rw [List.length_append, List.length_singleton]; exact hb1) hb8
              rw [List.length_append, List.length_singleton] at hih
              revert hx hih
              cases hxx : extF (bkF q) n (p ++ [c] ++ [v]) with
              | some x =>
                intro hx hih
                have hL : LOK Try.prog 55 (inI pins5) ([I v] ++ P5) (stO (L5 q b (p.length + 1) s)) (B true) (stO (L5 q x x.length s)) := hih
                refine lent_mk pins5 hL ?_ ?_ ?_ ?_ ?_ ?_ ?_
                · simp -implicitDefEqProofs (disch := omega) only [go_sem, ↓reduceIte, Nat.reduceEqDiff, Nat.reduceMul, Nat.reduceAdd, Nat.reduceDiv, Nat.reduceBEq, Nat.reduceLeDiff, Int.reduceToNat, Int.reduceNe, Int.reduceEq, Int.reduceLT, Int.reduceLE, Int.reduceBEq, Int.reduceBNe, ne_eq, not_true_eq_false, not_false_eq_true, decide_true, decide_false, List.length_map, e0, e1, e2, e3, e4, e7, m1, m2, m3, m4, m5, hb1, hbl]
                · simp -implicitDefEqProofs (disch := omega) only [go_sem, ↓reduceIte, Nat.reduceEqDiff, Nat.reduceMul, Nat.reduceAdd, Nat.reduceDiv, Nat.reduceBEq, Nat.reduceLeDiff, Int.reduceToNat, Int.reduceNe, Int.reduceEq, Int.reduceLT, Int.reduceLE, Int.reduceBEq, Int.reduceBNe, ne_eq, not_true_eq_false, not_false_eq_true, decide_true, decide_false, List.length_map, e0, e1, e2, e3, e4, e7, m1, m2, m3, m4, m5, hb1, hbl]
                · simp -implicitDefEqProofs (disch := omega) only [go_sem, ↓reduceIte, Nat.reduceEqDiff, Nat.reduceMul, Nat.reduceAdd, Nat.reduceDiv, Nat.reduceBEq, Nat.reduceLeDiff, Int.reduceToNat, Int.reduceNe, Int.reduceEq, Int.reduceLT, Int.reduceLE, Int.reduceBEq, Int.reduceBNe, ne_eq, not_true_eq_false, not_false_eq_true, decide_true, decide_false, List.length_map, e0, e1, e2, e3, e4, e7, m1, m2, m3, m4, m5, hb1, hbl]
                · simp -implicitDefEqProofs (disch := omega) only [go_sem, ↓reduceIte, Nat.reduceEqDiff, Nat.reduceMul, Nat.reduceAdd, Nat.reduceDiv, Nat.reduceBEq, Nat.reduceLeDiff, Int.reduceToNat, Int.reduceNe, Int.reduceEq, Int.reduceLT, Int.reduceLE, Int.reduceBEq, Int.reduceBNe, ne_eq, not_true_eq_false, not_false_eq_true, decide_true, decide_false, List.length_map, e0, e1, e2, e3, e4, e7, m1, m2, m3, m4, m5, hb1, hbl]
                · simp -implicitDefEqProofs (disch := omega) only [go_sem, ↓reduceIte, Nat.reduceEqDiff, Nat.reduceMul, Nat.reduceAdd, Nat.reduceDiv, Nat.reduceBEq, Nat.reduceLeDiff, Int.reduceToNat, Int.reduceNe, Int.reduceEq, Int.reduceLT, Int.reduceLE, Int.reduceBEq, Int.reduceBNe, ne_eq, not_true_eq_false, not_false_eq_true, decide_true, decide_false, List.length_map, e0, e1, e2, e3, e4, e7, m1, m2, m3, m4, m5, hb1, hbl]
                · simp -implicitDefEqProofs (disch := omega) only [go_sem, ↓reduceIte, Nat.reduceEqDiff, Nat.reduceMul, Nat.reduceAdd, Nat.reduceDiv, Nat.reduceBEq, Nat.reduceLeDiff, Int.reduceToNat, Int.reduceNe, Int.reduceEq, Int.reduceLT, Int.reduceLE, Int.reduceBEq, Int.reduceBNe, ne_eq, not_true_eq_false, not_false_eq_true, decide_true, decide_false, List.length_map, e0, e1, e2, e3, e4, e7, m1, m2, m3, m4, m5, hb1, hbl]
                · simp -implicitDefEqProofs (disch := omega) only [go_sem, ↓reduceIte, Nat.reduceEqDiff, Nat.reduceMul, Nat.reduceAdd, Nat.reduceDiv, Nat.reduceBEq, Nat.reduceLeDiff, Int.reduceToNat, Int.reduceNe, Int.reduceEq, Int.reduceLT, Int.reduceLE, Int.reduceBEq, Int.reduceBNe, ne_eq, not_true_eq_false, not_false_eq_true, decide_true, decide_false, List.length_map, e0, e1, e2, e3, e4, e7, m1, m2, m3, m4, m5, hb1, hbl, Try.results55]
                  rcases hr with ⟨y, h, rfl, rfl, rfl⟩ | ⟨h, _⟩
                  · rw [hx] at h; cases h; exact ⟨rfl, rfl, rfl⟩
                  · rw [hx] at h; cases h
              | none =>
                intro hx hih
                have hL : LOK Try.prog 55 (inI pins5) ([I v] ++ P5) (stO (L5 q b (p.length + 1) s)) (B false) (stO (L5 q (leftG (bkF q) n (p ++ [c] ++ [v])) (p.length + 1) s)) := hih
                have ht := leftG_take (bkF q) n (p ++ [c] ++ [v])
                have hlen : (p ++ [c] ++ [v]).length = p.length + 2 := by simp
                rw [hlen] at ht
                refine lent_mk pins5 hL ?_ ?_ ?_ ?_ ?_ ?_ ?_
                · simp -implicitDefEqProofs (disch := omega) only [go_sem, ↓reduceIte, Nat.reduceEqDiff, Nat.reduceMul, Nat.reduceAdd, Nat.reduceDiv, Nat.reduceBEq, Nat.reduceLeDiff, Int.reduceToNat, Int.reduceNe, Int.reduceEq, Int.reduceLT, Int.reduceLE, Int.reduceBEq, Int.reduceBNe, ne_eq, not_true_eq_false, not_false_eq_true, decide_true, decide_false, List.length_map, e0, e1, e2, e3, e4, e7, m1, m2, m3, m4, m5, hb1, hbl]
                · simp -implicitDefEqProofs (disch := omega) only [go_sem, ↓reduceIte, Nat.reduceEqDiff, Nat.reduceMul, Nat.reduceAdd, Nat.reduceDiv, Nat.reduceBEq, Nat.reduceLeDiff, Int.reduceToNat, Int.reduceNe, Int.reduceEq, Int.reduceLT, Int.reduceLE, Int.reduceBEq, Int.reduceBNe, ne_eq, not_true_eq_false, not_false_eq_true, decide_true, decide_false, List.length_map, e0, e1, e2, e3, e4, e7, m1, m2, m3, m4, m5, hb1, hbl]
                · simp -implicitDefEqProofs (disch := omega) only [go_sem, ↓reduceIte, Nat.reduceEqDiff, Nat.reduceMul, Nat.reduceAdd, Nat.reduceDiv, Nat.reduceBEq, Nat.reduceLeDiff, Int.reduceToNat, Int.reduceNe, Int.reduceEq, Int.reduceLT, Int.reduceLE, Int.reduceBEq, Int.reduceBNe, ne_eq, not_true_eq_false, not_false_eq_true, decide_true, decide_false, List.length_map, e0, e1, e2, e3, e4, e7, m1, m2, m3, m4, m5, hb1, hbl]
                · simp -implicitDefEqProofs (disch := omega) only [go_sem, ↓reduceIte, Nat.reduceEqDiff, Nat.reduceMul, Nat.reduceAdd, Nat.reduceDiv, Nat.reduceBEq, Nat.reduceLeDiff, Int.reduceToNat, Int.reduceNe, Int.reduceEq, Int.reduceLT, Int.reduceLE, Int.reduceBEq, Int.reduceBNe, ne_eq, not_true_eq_false, not_false_eq_true, decide_true, decide_false, List.length_map, e0, e1, e2, e3, e4, e7, m1, m2, m3, m4, m5, hb1, hbl]
                · simp -implicitDefEqProofs (disch := omega) only [go_sem, ↓reduceIte, Nat.reduceEqDiff, Nat.reduceMul, Nat.reduceAdd, Nat.reduceDiv, Nat.reduceBEq, Nat.reduceLeDiff, Int.reduceToNat, Int.reduceNe, Int.reduceEq, Int.reduceLT, Int.reduceLE, Int.reduceBEq, Int.reduceBNe, ne_eq, not_true_eq_false, not_false_eq_true, decide_true, decide_false, List.length_map, e0, e1, e2, e3, e4, e7, m1, m2, m3, m4, m5, hb1, hbl]
                · simp -implicitDefEqProofs (disch := omega) only [go_sem, ↓reduceIte, Nat.reduceEqDiff, Nat.reduceMul, Nat.reduceAdd, Nat.reduceDiv, Nat.reduceBEq, Nat.reduceLeDiff, Int.reduceToNat, Int.reduceNe, Int.reduceEq, Int.reduceLT, Int.reduceLE, Int.reduceBEq, Int.reduceBNe, ne_eq, not_true_eq_false, not_false_eq_true, decide_true, decide_false, List.length_map, e0, e1, e2, e3, e4, e7, m1, m2, m3, m4, m5, hb1, hbl]
                · simp -implicitDefEqProofs (disch := omega) only [go_sem, ↓reduceIte, Nat.reduceEqDiff, Nat.reduceMul, Nat.reduceAdd, Nat.reduceDiv, Nat.reduceBEq, Nat.reduceLeDiff, Int.reduceToNat, Int.reduceNe, Int.reduceEq, Int.reduceLT, Int.reduceLE, Int.reduceBEq, Int.reduceBNe, ne_eq, not_true_eq_false, not_false_eq_true, decide_true, decide_false, List.length_map, e0, e1, e2, e3, e4, e7, m1, m2, m3, m4, m5, hb1, hbl]
                  refine againQ_mk k (by omega) ⟨v + 1, leftG (bkF q) n (p ++ [c] ++ [v]), by omega, by omega, ?_, by omega, ?_, hx, hg⟩
                  · have e := congrArg (List.take (p.length + 1)) ht.1
                    rw [List.take_take, Nat.min_eq_left (by omega), List.take_left' (by simp)] at e
                    exact e
                  · simp -implicitDefEqProofs (disch := omega) only [go_sem, ↓reduceIte, Nat.reduceEqDiff, Nat.reduceMul, Nat.reduceAdd, Nat.reduceDiv, Nat.reduceBEq, Nat.reduceLeDiff, Int.reduceToNat, Int.reduceNe, Int.reduceEq, Int.reduceLT, Int.reduceLE, Int.reduceBEq, Int.reduceBNe, ne_eq, not_true_eq_false, not_false_eq_true, decide_true, decide_false, List.length_map, e0, e1, e2, e3, e4, e7, m1, m2, m3, m4, m5, IV5]
            · rw [if_neg (fun e => hm e.2)] at hx hg
              simp -implicitDefEqProofs (disch := omega) only [go_sem, ↓reduceIte, Nat.reduceEqDiff, Nat.reduceMul, Nat.reduceAdd, Nat.reduceDiv, Nat.reduceBEq, Nat.reduceLeDiff, Int.reduceToNat, Int.reduceNe, Int.reduceEq, Int.reduceLT, Int.reduceLE, Int.reduceBEq, Int.reduceBNe, ne_eq, not_true_eq_false, not_false_eq_true, decide_true, decide_false, List.length_map, e0, e1, e2, e3, e4, e7, m1, m2, m3, m4, m5]
              refine againQ_mk k (by omega) ⟨v + 1, b, by omega, by omega, hb1, hb8, ?_, hx, hg⟩
              simp -implicitDefEqProofs (disch := omega) only [go_sem, ↓reduceIte, Nat.reduceEqDiff, Nat.reduceMul, Nat.reduceAdd, Nat.reduceDiv, Nat.reduceBEq, Nat.reduceLeDiff, Int.reduceToNat, Int.reduceNe, Int.reduceEq, Int.reduceLT, Int.reduceLE, Int.reduceBEq, Int.reduceBNe, ne_eq, not_true_eq_false, not_false_eq_true, decide_true, decide_false, List.length_map, e0, e1, e2, e3, e4, e7, m1, m2, m3, m4, m5, IV5]
          · rw [if_neg (fun e => hw e.1)] at hx hg
            simp -implicitDefEqProofs (disch := omega) only [go_sem, ↓reduceIte, Nat.reduceEqDiff, Nat.reduceMul, Nat.reduceAdd, Nat.reduceDiv, Nat.reduceBEq, Nat.reduceLeDiff, Int.reduceToNat, Int.reduceNe, Int.reduceEq, Int.reduceLT, Int.reduceLE, Int.reduceBEq, Int.reduceBNe, ne_eq, not_true_eq_false, not_false_eq_true, decide_true, decide_false, List.length_map, e0, e1, e2, e3, e4, e7, m1, m2, m3, m4, m5]
            refine againQ_mk k (by omega) ⟨v + 1, b, by omega, by omega, hb1, hb8, ?_, hx, hg⟩
            simp -implicitDefEqProofs (disch := omega) only [go_sem, ↓reduceIte, Nat.reduceEqDiff, Nat.reduceMul, Nat.reduceAdd, Nat.reduceDiv, Nat.reduceBEq, Nat.reduceLeDiff, Int.reduceToNat, Int.reduceNe, Int.reduceEq, Int.reduceLT, Int.reduceLE, Int.reduceBEq, Int.reduceBNe, ne_eq, not_true_eq_false, not_false_eq_true, decide_true, decide_false, List.length_map, e0, e1, e2, e3, e4, e7, m1, m2, m3, m4, m5, IV5]
        · have : k = 0 := by omega
          subst this
          rw [firstS] at hx
          rw [foldS] at hg
          rcases hr with ⟨x, h, _⟩ | ⟨_, rfl, rfl, rfl⟩
          · rw [h] at hx; cases hx
          · simp -implicitDefEqProofs (disch := omega) only [go_sem, ↓reduceIte, Nat.reduceEqDiff, Nat.reduceMul, Nat.reduceAdd, Nat.reduceDiv, Nat.reduceBEq, Nat.reduceLeDiff, Int.reduceToNat, Int.reduceNe, Int.reduceEq, Int.reduceLT, Int.reduceLE, Int.reduceBEq, Int.reduceBNe, ne_eq, not_true_eq_false, not_false_eq_true, decide_true, decide_false, List.length_map, e0, e1, e2, e3, e4, e7, m1, m2, m3, m4, m5, Try.results55]
            rw [show ((p.length + 1 : Nat) - 1 : Int).toNat - 0 = p.length from by omega, hg]
            exact ⟨rfl, rfl⟩
    revert key
    cases extF (bkF q) (n + 1) (p ++ [c]) with
    | some x => intro key; exact key true x x.length (.inl ⟨x, rfl, rfl, rfl, rfl⟩)
    | none => intro key; exact key false _ _ (.inr ⟨rfl, rfl, rfl, rfl⟩)
end Go.Proofs.Ytjbgckjcbmmobaa

/- The contracts of chapter 39: the first one of the shortest cycles of a book. -/
set_option maxRecDepth 100000
set_option linter.unusedSimpArgs false
namespace Go.Proofs.Ytjbgckjcbmmobaa
open Go.Vai Go Go.Proofs

@[go_sem] theorem one_nilFunc : Value.nilFunc.oneCell' = true := rfl
/-- What a book's 'cycle' returns. -/
def cycB (o : Option (List Int)) : AV := match o with
  | some q => .tup [.new 3 1 (q.map I), B true]
  | none => .tup [.new 3 1 [], B false]
theorem cyc_ev (q : List Int) (hq : q.length = 64) : Ev Try.prog 42 [.pt (BK q) 0] (cycB (cycF (bkF q))) := by
  refine ev_of Try.func42 rfl (by kernel_rfl) mo (Nat.le_of_ble_eq_true rfl) ?_
  simp -implicitDefEqProofs (disch := omega) only [go_sem, ↓reduceIte, Nat.reduceEqDiff, Nat.reduceMul, Nat.reduceAdd, Nat.reduceDiv, Nat.reduceBEq, Nat.reduceLeDiff, Int.reduceToNat, Int.reduceNe, Int.reduceEq, Int.reduceLT, Int.reduceLE, Int.reduceBEq, Int.reduceBNe, ne_eq, not_true_eq_false, not_false_eq_true, decide_true, decide_false, List.length_map, Try.ntmps42]
  refine loopC_mk (fun k E σ => ∃ s : Nat, s + k = 9 ∧ 3 ≤ s ∧ E 1 = .ptr 90177552 1 0 0 ∧ E 4 = .ptr 90177600 1 0 0 ∧ σ 90177600 = some ⟨3, 1, [I s]⟩ ∧ σ 90177552 = some ⟨59, 1, [.pt (BK q) 0]⟩ ∧
    cycF (bkF q) = cycN (bkF q) (s - 1) k) 6 ⟨3, by omega, by omega, ?_⟩ ?_
  · simp -implicitDefEqProofs (disch := omega) only [go_sem, ↓reduceIte, Nat.reduceEqDiff, Nat.reduceMul, Nat.reduceAdd, Nat.reduceDiv, Nat.reduceBEq, Nat.reduceLeDiff, Int.reduceToNat, Int.reduceNe, Int.reduceEq, Int.reduceLT, Int.reduceLE, Int.reduceBEq, Int.reduceBNe, ne_eq, not_true_eq_false, not_false_eq_true, decide_true, decide_false, List.length_map]
    exact ⟨rfl, rfl⟩
  · rintro k E σ ⟨s, hs, h3, h1, h4, m4, m1, hx⟩
    simp -implicitDefEqProofs (disch := omega) only [go_sem, ↓reduceIte, Nat.reduceEqDiff, Nat.reduceMul, Nat.reduceAdd, Nat.reduceDiv, Nat.reduceBEq, Nat.reduceLeDiff, Int.reduceToNat, Int.reduceNe, Int.reduceEq, Int.reduceLT, Int.reduceLE, Int.reduceBEq, Int.reduceBNe, ne_eq, not_true_eq_false, not_false_eq_true, decide_true, decide_false, List.length_map, h1, h4, m1, m4]
    refine branch_mk (fun hc => ?_) (fun hc => ?_)
    · obtain ⟨k, rfl⟩ : ∃ m, k = m + 1 := ⟨k - 1, by omega⟩
      rw [cycN] at hx
      simp -implicitDefEqProofs (disch := omega) only [go_sem, ↓reduceIte, Nat.reduceEqDiff, Nat.reduceMul, Nat.reduceAdd, Nat.reduceDiv, Nat.reduceBEq, Nat.reduceLeDiff, Int.reduceToNat, Int.reduceNe, Int.reduceEq, Int.reduceLT, Int.reduceLE, Int.reduceBEq, Int.reduceBNe, ne_eq, not_true_eq_false, not_false_eq_true, decide_true, decide_false, List.length_map, h1, h4, m1, m4]
      refine loopC_mk (fun j E σ => ∃ (c : Int) (es : List Int), c + j = 8 ∧ 0 ≤ c ∧ es.length ≤ 8 ∧ E 1 = .ptr 90177552 1 0 0 ∧ E 4 = .ptr 90177600 1 0 0 ∧ E 5 = .ptr 90177616 1 0 0 ∧ E 6 = .ptr 90177632 1 0 0 ∧ E 13 = I c ∧
        σ 90177616 = some ⟨25, 1, [.own 90177617 1 0 0]⟩ ∧ σ 90177617 = some ⟨3, 1, es.map I⟩ ∧ σ 90177600 = some ⟨3, 1, [I s]⟩ ∧ σ 90177552 = some ⟨59, 1, [.pt (BK q) 0]⟩ ∧ σ 90177632 = some ⟨69, 1, [.clo 55 P5]⟩ ∧
        sizeF (bkF q) (s - 1) = firstS (fun c => extF (bkF q) (s - 1) [c]) c j) 8 ⟨0, [], by omega, by omega, by simp, ?_⟩ ?_
      · simp -implicitDefEqProofs (disch := omega) only [go_sem, ↓reduceIte, Nat.reduceEqDiff, Nat.reduceMul, Nat.reduceAdd, Nat.reduceDiv, Nat.reduceBEq, Nat.reduceLeDiff, Int.reduceToNat, Int.reduceNe, Int.reduceEq, Int.reduceLT, Int.reduceLE, Int.reduceBEq, Int.reduceBNe, ne_eq, not_true_eq_false, not_false_eq_true, decide_true, decide_false, List.length_map, h1, h4, m1, m4]
        rfl
      · clear h1 h4 m1 m4 E σ
        rintro j E σ ⟨c, es, hj, hc0, he8, h1, h4, h5, h6, h13, m5, m5', m4, m1, m6, hy⟩
        simp -implicitDefEqProofs (disch := omega) only [go_sem, ↓reduceIte, Nat.reduceEqDiff, Nat.reduceMul, Nat.reduceAdd, Nat.reduceDiv, Nat.reduceBEq, Nat.reduceLeDiff, Int.reduceToNat, Int.reduceNe, Int.reduceEq, Int.reduceLT, Int.reduceLE, Int.reduceBEq, Int.reduceBNe, ne_eq, not_true_eq_false, not_false_eq_true, decide_true, decide_false, List.length_map, h1, h4, h5, h6, h13, m5, m5', m4, m1, m6]
        refine branch_mk (fun hc8 => ?_) (fun hc8 => ?_)
        · obtain ⟨j, rfl⟩ : ∃ m, j = m + 1 := ⟨j - 1, by omega⟩
          rw [firstS] at hy
          have hih := ext5 q hq s (by omega) (s - 1) [] c (pathOK_one hc0 (by omega)) (by simp; omega) es (by simp) he8
          simp -implicitDefEqProofs (disch := omega) only [go_sem, ↓reduceIte, Nat.reduceEqDiff, Nat.reduceMul, Nat.reduceAdd, Nat.reduceDiv, Nat.reduceBEq, Nat.reduceLeDiff, Int.reduceToNat, Int.reduceNe, Int.reduceEq, Int.reduceLT, Int.reduceLE, Int.reduceBEq, Int.reduceBNe, ne_eq, not_true_eq_false, not_false_eq_true, decide_true, decide_false, List.length_map, h1, h4, h5, h6, h13, m5, m5', m4, m1, m6]
          refine callC_sem rfl ?_
          revert hy hih
          rw [List.nil_append]
          cases hxx : extF (bkF q) (s - 1) [c] with
          | some x =>
            intro hy hih
            have hL : LOK Try.prog 55 (inI pins5) ([I c] ++ P5) (stO (L5 q es 0 s)) (B true) (stO (L5 q x x.length s)) := hih
            refine lent_mk pins5 hL ?_ ?_ ?_ ?_ ?_ ?_ ?_
            · simp -implicitDefEqProofs (disch := omega) only [go_sem, ↓reduceIte, Nat.reduceEqDiff, Nat.reduceMul, Nat.reduceAdd, Nat.reduceDiv, Nat.reduceBEq, Nat.reduceLeDiff, Int.reduceToNat, Int.reduceNe, Int.reduceEq, Int.reduceLT, Int.reduceLE, Int.reduceBEq, Int.reduceBNe, ne_eq, not_true_eq_false, not_false_eq_true, decide_true, decide_false, List.length_map, h1, h4, h5, h6, h13, m5, m5', m4, m1, m6]
            · simp -implicitDefEqProofs (disch := omega) only [go_sem, ↓reduceIte, Nat.reduceEqDiff, Nat.reduceMul, Nat.reduceAdd, Nat.reduceDiv, Nat.reduceBEq, Nat.reduceLeDiff, Int.reduceToNat, Int.reduceNe, Int.reduceEq, Int.reduceLT, Int.reduceLE, Int.reduceBEq, Int.reduceBNe, ne_eq, not_true_eq_false, not_false_eq_true, decide_true, decide_false, List.length_map, h1, h4, h5, h6, h13, m5, m5', m4, m1, m6]
            · simp -implicitDefEqProofs (disch := omega) only [go_sem, ↓reduceIte, Nat.reduceEqDiff, Nat.reduceMul, Nat.reduceAdd, Nat.reduceDiv, Nat.reduceBEq, Nat.reduceLeDiff, Int.reduceToNat, Int.reduceNe, Int.reduceEq, Int.reduceLT, Int.reduceLE, Int.reduceBEq, Int.reduceBNe, ne_eq, not_true_eq_false, not_false_eq_true, decide_true, decide_false, List.length_map, h1, h4, h5, h6, h13, m5, m5', m4, m1, m6]
            · simp -implicitDefEqProofs (disch := omega) only [go_sem, ↓reduceIte, Nat.reduceEqDiff, Nat.reduceMul, Nat.reduceAdd, Nat.reduceDiv, Nat.reduceBEq, Nat.reduceLeDiff, Int.reduceToNat, Int.reduceNe, Int.reduceEq, Int.reduceLT, Int.reduceLE, Int.reduceBEq, Int.reduceBNe, ne_eq, not_true_eq_false, not_false_eq_true, decide_true, decide_false, List.length_map, h1, h4, h5, h6, h13, m5, m5', m4, m1, m6]
            · simp -implicitDefEqProofs (disch := omega) only [go_sem, ↓reduceIte, Nat.reduceEqDiff, Nat.reduceMul, Nat.reduceAdd, Nat.reduceDiv, Nat.reduceBEq, Nat.reduceLeDiff, Int.reduceToNat, Int.reduceNe, Int.reduceEq, Int.reduceLT, Int.reduceLE, Int.reduceBEq, Int.reduceBNe, ne_eq, not_true_eq_false, not_false_eq_true, decide_true, decide_false, List.length_map, h1, h4, h5, h6, h13, m5, m5', m4, m1, m6]
            · simp -implicitDefEqProofs (disch := omega) only [go_sem, ↓reduceIte, Nat.reduceEqDiff, Nat.reduceMul, Nat.reduceAdd, Nat.reduceDiv, Nat.reduceBEq, Nat.reduceLeDiff, Int.reduceToNat, Int.reduceNe, Int.reduceEq, Int.reduceLT, Int.reduceLE, Int.reduceBEq, Int.reduceBNe, ne_eq, not_true_eq_false, not_false_eq_true, decide_true, decide_false, List.length_map, h1, h4, h5, h6, h13, m5, m5', m4, m1, m6]
            · simp -implicitDefEqProofs (disch := omega) only [go_sem, ↓reduceIte, Nat.reduceEqDiff, Nat.reduceMul, Nat.reduceAdd, Nat.reduceDiv, Nat.reduceBEq, Nat.reduceLeDiff, Int.reduceToNat, Int.reduceNe, Int.reduceEq, Int.reduceLT, Int.reduceLE, Int.reduceBEq, Int.reduceBNe, ne_eq, not_true_eq_false, not_false_eq_true, decide_true, decide_false, List.length_map, h1, h4, h5, h6, h13, m5, m5', m4, m1, m6, Try.results42]
              rw [hx, hy]; rfl
          | none =>
            intro hy hih
            have hL : LOK Try.prog 55 (inI pins5) ([I c] ++ P5) (stO (L5 q es 0 s)) (B false) (stO (L5 q (leftG (bkF q) (s - 1) [c]) 0 s)) := hih
            have ht := leftG_take (bkF q) (s - 1) [c]
            rw [List.length_singleton] at ht
            refine lent_mk pins5 hL ?_ ?_ ?_ ?_ ?_ ?_ ?_
            · simp -implicitDefEqProofs (disch := omega) only [go_sem, ↓reduceIte, Nat.reduceEqDiff, Nat.reduceMul, Nat.reduceAdd, Nat.reduceDiv, Nat.reduceBEq, Nat.reduceLeDiff, Int.reduceToNat, Int.reduceNe, Int.reduceEq, Int.reduceLT, Int.reduceLE, Int.reduceBEq, Int.reduceBNe, ne_eq, not_true_eq_false, not_false_eq_true, decide_true, decide_false, List.length_map, h1, h4, h5, h6, h13, m5, m5', m4, m1, m6]
            · simp -implicitDefEqProofs (disch := omega) only [go_sem, ↓reduceIte, Nat.reduceEqDiff, Nat.reduceMul, Nat.reduceAdd, Nat.reduceDiv, Nat.reduceBEq, Nat.reduceLeDiff, Int.reduceToNat, Int.reduceNe, Int.reduceEq, Int.reduceLT, Int.reduceLE, Int.reduceBEq, Int.reduceBNe, ne_eq, not_true_eq_false, not_false_eq_true, decide_true, decide_false, List.length_map, h1, h4, h5, h6, h13, m5, m5', m4, m1, m6]
            · simp -implicitDefEqProofs (disch := omega) only [go_sem, ↓reduceIte, Nat.reduceEqDiff, Nat.reduceMul, Nat.reduceAdd, Nat.reduceDiv, Nat.reduceBEq, Nat.reduceLeDiff, Int.reduceToNat, Int.reduceNe, Int.reduceEq, Int.reduceLT, Int.reduceLE, Int.reduceBEq, Int.reduceBNe, ne_eq, not_true_eq_false, not_false_eq_true, decide_true, decide_false, List.length_map, h1, h4, h5, h6, h13, m5, m5', m4, m1, m6]
            · simp -implicitDefEqProofs (disch := omega) only [go_sem, ↓reduceIte, Nat.reduceEqDiff, Nat.reduceMul, Nat.reduceAdd, Nat.reduceDiv, Nat.reduceBEq, Nat.reduceLeDiff, Int.reduceToNat, Int.reduceNe, Int.reduceEq, Int.reduceLT, Int.reduceLE, Int.reduceBEq, Int.reduceBNe, ne_eq, not_true_eq_false, not_false_eq_true, decide_true, decide_false, List.length_map, h1, h4, h5, h6, h13, m5, m5', m4, m1, m6]
            · simp -implicitDefEqProofs (disch := omega) only [go_sem, ↓reduceIte, Nat.reduceEqDiff, Nat.reduceMul, Nat.reduceAdd, Nat.reduceDiv, Nat.reduceBEq, Nat.reduceLeDiff, Int.reduceToNat, Int.reduceNe, Int.reduceEq, Int.reduceLT, Int.reduceLE, Int.reduceBEq, Int.reduceBNe, ne_eq, not_true_eq_false, not_false_eq_true, decide_true, decide_false, List.length_map, h1, h4, h5, h6, h13, m5, m5', m4, m1, m6]
            · simp -implicitDefEqProofs (disch := omega) only [go_sem, ↓reduceIte, Nat.reduceEqDiff, Nat.reduceMul, Nat.reduceAdd, Nat.reduceDiv, Nat.reduceBEq, Nat.reduceLeDiff, Int.reduceToNat, Int.reduceNe, Int.reduceEq, Int.reduceLT, Int.reduceLE, Int.reduceBEq, Int.reduceBNe, ne_eq, not_true_eq_false, not_false_eq_true, decide_true, decide_false, List.length_map, h1, h4, h5, h6, h13, m5, m5', m4, m1, m6]
            · simp -implicitDefEqProofs (disch := omega) only [go_sem, ↓reduceIte, Nat.reduceEqDiff, Nat.reduceMul, Nat.reduceAdd, Nat.reduceDiv, Nat.reduceBEq, Nat.reduceLeDiff, Int.reduceToNat, Int.reduceNe, Int.reduceEq, Int.reduceLT, Int.reduceLE, Int.reduceBEq, Int.reduceBNe, ne_eq, not_true_eq_false, not_false_eq_true, decide_true, decide_false, List.length_map, h1, h4, h5, h6, h13, m5, m5', m4, m1, m6]
              refine againQ_mk j (by omega) ⟨c + 1, leftG (bkF q) (s - 1) [c], by omega, by omega, by omega, ?_⟩
              simp -implicitDefEqProofs (disch := omega) only [go_sem, ↓reduceIte, Nat.reduceEqDiff, Nat.reduceMul, Nat.reduceAdd, Nat.reduceDiv, Nat.reduceBEq, Nat.reduceLeDiff, Int.reduceToNat, Int.reduceNe, Int.reduceEq, Int.reduceLT, Int.reduceLE, Int.reduceBEq, Int.reduceBNe, ne_eq, not_true_eq_false, not_false_eq_true, decide_true, decide_false, List.length_map, h1, h4, h5, h6, h13, m5, m5', m4, m1, m6]
              exact hy
        · have : j = 0 := by omega
          subst this
          rw [firstS] at hy
          rw [hy] at hx
          simp -implicitDefEqProofs (disch := omega) only [go_sem, ↓reduceIte, Nat.reduceEqDiff, Nat.reduceMul, Nat.reduceAdd, Nat.reduceDiv, Nat.reduceBEq, Nat.reduceLeDiff, Int.reduceToNat, Int.reduceNe, Int.reduceEq, Int.reduceLT, Int.reduceLE, Int.reduceBEq, Int.reduceBNe, ne_eq, not_true_eq_false, not_false_eq_true, decide_true, decide_false, List.length_map, h1, h4, h5, h6, h13, m5, m5', m4, m1, m6]
          refine againQ_mk k (by omega) ⟨s + 1, by omega, by omega, ?_⟩
          simp -implicitDefEqProofs (disch := omega) only [go_sem, ↓reduceIte, Nat.reduceEqDiff, Nat.reduceMul, Nat.reduceAdd, Nat.reduceDiv, Nat.reduceBEq, Nat.reduceLeDiff, Int.reduceToNat, Int.reduceNe, Int.reduceEq, Int.reduceLT, Int.reduceLE, Int.reduceBEq, Int.reduceBNe, ne_eq, not_true_eq_false, not_false_eq_true, decide_true, decide_false, List.length_map, h1, h4, h5, h6, h13, m5, m5', m4, m1, m6]
          refine ⟨by simp, ?_⟩
          rw [show s + 1 - 1 = s - 1 + 1 from by omega]; exact hx
    · have : k = 0 := by omega
      subst this
      simp -implicitDefEqProofs (disch := omega) only [go_sem, ↓reduceIte, Nat.reduceEqDiff, Nat.reduceMul, Nat.reduceAdd, Nat.reduceDiv, Nat.reduceBEq, Nat.reduceLeDiff, Int.reduceToNat, Int.reduceNe, Int.reduceEq, Int.reduceLT, Int.reduceLE, Int.reduceBEq, Int.reduceBNe, ne_eq, not_true_eq_false, not_false_eq_true, decide_true, decide_false, List.length_map, h1, h4, m1, m4, Try.results42]
      rw [hx, cycN, cycB]
end Go.Proofs.Ytjbgckjcbmmobaa

/- The contracts of chapter 39: Cycle. -/
set_option maxRecDepth 100000
set_option linter.unusedSimpArgs false
namespace Go.Proofs.Ytjbgckjcbmmobaa
open Go.Vai Go Go.Proofs

/-- What 'Cycle' finds. -/
def cyF (l : List Deb) : Option (List Int) := if debtsF l 1000000000 = true then cycF (bkF (bookF l)) else none
theorem Cycle_ev (l : List Deb) (hl : l.length ≤ 9223372036854775807) : Ev Try.prog 18 [DL l] (cycB (cyF l)) := by
  refine ev_of Try.func18 rfl (by kernel_rfl) mo (Nat.le_of_ble_eq_true rfl) ?_
  simp -implicitDefEqProofs (disch := omega) only [go_sem, ↓reduceIte, Nat.reduceEqDiff, Nat.reduceMul, Nat.reduceAdd, Nat.reduceDiv, Nat.reduceBEq, Nat.reduceLeDiff, Int.reduceToNat, Int.reduceNe, Int.reduceEq, Int.reduceLT, Int.reduceLE, Int.reduceBEq, Int.reduceBNe, ne_eq, not_true_eq_false, not_false_eq_true, decide_true, decide_false, List.length_map, Try.ntmps18]
  refine callC_at (valid_ev l hl) ?_
  simp -implicitDefEqProofs (disch := omega) only [go_sem, ↓reduceIte, Nat.reduceEqDiff, Nat.reduceMul, Nat.reduceAdd, Nat.reduceDiv, Nat.reduceBEq, Nat.reduceLeDiff, Int.reduceToNat, Int.reduceNe, Int.reduceEq, Int.reduceLT, Int.reduceLE, Int.reduceBEq, Int.reduceBNe, ne_eq, not_true_eq_false, not_false_eq_true, decide_true, decide_false, List.length_map]
  refine branch_mk (fun hb => ?_) (fun hb => ?_)
  · simp -implicitDefEqProofs (disch := omega) only [go_sem, ↓reduceIte, Nat.reduceEqDiff, Nat.reduceMul, Nat.reduceAdd, Nat.reduceDiv, Nat.reduceBEq, Nat.reduceLeDiff, Int.reduceToNat, Int.reduceNe, Int.reduceEq, Int.reduceLT, Int.reduceLE, Int.reduceBEq, Int.reduceBNe, ne_eq, not_true_eq_false, not_false_eq_true, decide_true, decide_false, List.length_map, Try.results18]
    simp [cyF, cycB, hb]
  · have hb : debtsF l 1000000000 = true := by simpa using hb
    rw [cyF, if_pos hb]
    simp -implicitDefEqProofs (disch := omega) only [go_sem, ↓reduceIte, Nat.reduceEqDiff, Nat.reduceMul, Nat.reduceAdd, Nat.reduceDiv, Nat.reduceBEq, Nat.reduceLeDiff, Int.reduceToNat, Int.reduceNe, Int.reduceEq, Int.reduceLT, Int.reduceLE, Int.reduceBEq, Int.reduceBNe, ne_eq, not_true_eq_false, not_false_eq_true, decide_true, decide_false, List.length_map]
    refine callC_at (open_ev l hb) ?_
    simp -implicitDefEqProofs (disch := omega) only [go_sem, ↓reduceIte, Nat.reduceEqDiff, Nat.reduceMul, Nat.reduceAdd, Nat.reduceDiv, Nat.reduceBEq, Nat.reduceLeDiff, Int.reduceToNat, Int.reduceNe, Int.reduceEq, Int.reduceLT, Int.reduceLE, Int.reduceBEq, Int.reduceBNe, ne_eq, not_true_eq_false, not_false_eq_true, decide_true, decide_false, List.length_map]
    have hc := cyc_ev (bookF l) (bookF_length l)
    revert hc
    cases cycF (bkF (bookF l)) with
    | none =>
      intro hc
      rw [cycB] at hc
      refine callC_at hc ?_
      simp -implicitDefEqProofs (disch := omega) only [go_sem, ↓reduceIte, Nat.reduceEqDiff, Nat.reduceMul, Nat.reduceAdd, Nat.reduceDiv, Nat.reduceBEq, Nat.reduceLeDiff, Int.reduceToNat, Int.reduceNe, Int.reduceEq, Int.reduceLT, Int.reduceLE, Int.reduceBEq, Int.reduceBNe, ne_eq, not_true_eq_false, not_false_eq_true, decide_true, decide_false, List.length_map, Try.results18]
      rw [cycB]
    | some c =>
      intro hc
      rw [cycB] at hc
      refine callC_at hc ?_
      simp -implicitDefEqProofs (disch := omega) only [go_sem, ↓reduceIte, Nat.reduceEqDiff, Nat.reduceMul, Nat.reduceAdd, Nat.reduceDiv, Nat.reduceBEq, Nat.reduceLeDiff, Int.reduceToNat, Int.reduceNe, Int.reduceEq, Int.reduceLT, Int.reduceLE, Int.reduceBEq, Int.reduceBNe, ne_eq, not_true_eq_false, not_false_eq_true, decide_true, decide_false, List.length_map, Try.results18]
      rw [cycB]
theorem CycleR_ev (l : List Deb) (hl : l.length ≤ 9223372036854775807) : Ev Try.prog 19 [DL l] (cycV (cyF l)) := by
  refine ev_of Try.func19 rfl (by kernel_rfl) mo (Nat.le_of_ble_eq_true rfl) ?_
  simp -implicitDefEqProofs (disch := omega) only [go_sem, ↓reduceIte, Nat.reduceEqDiff, Nat.reduceMul, Nat.reduceAdd, Nat.reduceDiv, Nat.reduceBEq, Nat.reduceLeDiff, Int.reduceToNat, Int.reduceNe, Int.reduceEq, Int.reduceLT, Int.reduceLE, Int.reduceBEq, Int.reduceBNe, ne_eq, not_true_eq_false, not_false_eq_true, decide_true, decide_false, List.length_map, Try.ntmps19]
  refine callC_at (validR_ev l hl) ?_
  simp -implicitDefEqProofs (disch := omega) only [go_sem, ↓reduceIte, Nat.reduceEqDiff, Nat.reduceMul, Nat.reduceAdd, Nat.reduceDiv, Nat.reduceBEq, Nat.reduceLeDiff, Int.reduceToNat, Int.reduceNe, Int.reduceEq, Int.reduceLT, Int.reduceLE, Int.reduceBEq, Int.reduceBNe, ne_eq, not_true_eq_false, not_false_eq_true, decide_true, decide_false, List.length_map]
  refine branch_mk (fun hb => ?_) (fun hb => ?_)
  · simp -implicitDefEqProofs (disch := omega) only [go_sem, ↓reduceIte, Nat.reduceEqDiff, Nat.reduceMul, Nat.reduceAdd, Nat.reduceDiv, Nat.reduceBEq, Nat.reduceLeDiff, Int.reduceToNat, Int.reduceNe, Int.reduceEq, Int.reduceLT, Int.reduceLE, Int.reduceBEq, Int.reduceBNe, ne_eq, not_true_eq_false, not_false_eq_true, decide_true, decide_false, List.length_map, Try.results19]
    simp [cyF, cycV, hb]
  · have hb : debtsF l 1000000000 = true := by simpa using hb
    rw [cyF, if_pos hb]
    simp -implicitDefEqProofs (disch := omega) only [go_sem, ↓reduceIte, Nat.reduceEqDiff, Nat.reduceMul, Nat.reduceAdd, Nat.reduceDiv, Nat.reduceBEq, Nat.reduceLeDiff, Int.reduceToNat, Int.reduceNe, Int.reduceEq, Int.reduceLT, Int.reduceLE, Int.reduceBEq, Int.reduceBNe, ne_eq, not_true_eq_false, not_false_eq_true, decide_true, decide_false, List.length_map]
    refine callC_at (pairsR_ev l hl) ?_
    simp -implicitDefEqProofs (disch := omega) only [go_sem, ↓reduceIte, Nat.reduceEqDiff, Nat.reduceMul, Nat.reduceAdd, Nat.reduceDiv, Nat.reduceBEq, Nat.reduceLeDiff, Int.reduceToNat, Int.reduceNe, Int.reduceEq, Int.reduceLT, Int.reduceLE, Int.reduceBEq, Int.reduceBNe, ne_eq, not_true_eq_false, not_false_eq_true, decide_true, decide_false, List.length_map]
    refine callC_sem rfl ?_
    refine freeze_op [41943168] ?_
    simp -implicitDefEqProofs (disch := omega) only [go_sem, ↓reduceIte, Nat.reduceEqDiff, Nat.reduceMul, Nat.reduceAdd, Nat.reduceDiv, Nat.reduceBEq, Nat.reduceLeDiff, Int.reduceToNat, Int.reduceNe, Int.reduceEq, Int.reduceLT, Int.reduceLE, Int.reduceBEq, Int.reduceBNe, ne_eq, not_true_eq_false, not_false_eq_true, decide_true, decide_false, List.length_map]
    have hc := cycR_ev (pairsF l) (by have := pairsF_length l; omega)
    rw [← lstF_book l hb, cyc_list (bookF_netted l hb)] at hc
    rw [← lstF_book l hb]
    revert hc
    cases cycF (bkF (bookF l)) with
    | none =>
      intro hc
      rw [cycV] at hc
      refine callC_at hc ?_
      simp -implicitDefEqProofs (disch := omega) only [go_sem, ↓reduceIte, Nat.reduceEqDiff, Nat.reduceMul, Nat.reduceAdd, Nat.reduceDiv, Nat.reduceBEq, Nat.reduceLeDiff, Int.reduceToNat, Int.reduceNe, Int.reduceEq, Int.reduceLT, Int.reduceLE, Int.reduceBEq, Int.reduceBNe, ne_eq, not_true_eq_false, not_false_eq_true, decide_true, decide_false, List.length_map, Try.results19]
      rw [cycV]
    | some c =>
      intro hc
      rw [cycV] at hc
      refine callC_at hc ?_
      simp -implicitDefEqProofs (disch := omega) only [go_sem, ↓reduceIte, Nat.reduceEqDiff, Nat.reduceMul, Nat.reduceAdd, Nat.reduceDiv, Nat.reduceBEq, Nat.reduceLeDiff, Int.reduceToNat, Int.reduceNe, Int.reduceEq, Int.reduceLT, Int.reduceLE, Int.reduceBEq, Int.reduceBNe, ne_eq, not_true_eq_false, not_false_eq_true, decide_true, decide_false, List.length_map, Try.results19]
      rw [cycV]
end Go.Proofs.Ytjbgckjcbmmobaa

/- The contracts of chapter 39: Round. -/
set_option maxRecDepth 100000
set_option linter.unusedSimpArgs false
namespace Go.Proofs.Ytjbgckjcbmmobaa
open Go.Vai Go Go.Proofs

/-- What 'Round' returns. -/
def roundT (l : List Deb) : AV := if debtsF l 1000000000 = true then .tup [.new 47 3 ((lstF (rndF (bookF l))).map DP), Er 0] else .tup [.new 47 3 [], Er 390]
theorem mod_next (i n : Nat) (h : i < n) : (((i : Int) + 1).tmod (n : Int)).toNat = (i + 1) % n := by
  rw [Int.tmod_eq_emod_of_nonneg (by omega), show (i : Int) + 1 = ((i + 1 : Nat) : Int) from by simp, ← Int.natCast_emod, Int.toNat_natCast]
theorem mod_next' (i n : Nat) (h : i < n) : 0 ≤ ((i : Int) + 1).tmod (n : Int) := by
  rw [Int.tmod_eq_emod_of_nonneg (by omega)]; exact Int.emod_nonneg _ (by omega)
theorem Round_ev (l : List Deb) (hl : l.length ≤ 9223372036854775807) : Ev Try.prog 20 [DL l] (roundT l) := by
  refine ev_of Try.func20 rfl (by kernel_rfl) mo (Nat.le_of_ble_eq_true rfl) ?_
  simp -implicitDefEqProofs (disch := omega) only [go_sem, ↓reduceIte, Nat.reduceEqDiff, Nat.reduceMul, Nat.reduceAdd, Nat.reduceDiv, Nat.reduceBEq, Nat.reduceLeDiff, Int.reduceToNat, Int.reduceNe, Int.reduceEq, Int.reduceLT, Int.reduceLE, Int.reduceBEq, Int.reduceBNe, ne_eq, not_true_eq_false, not_false_eq_true, decide_true, decide_false, List.length_map, Try.ntmps20]
  refine callC_at (valid_ev l hl) ?_
  simp -implicitDefEqProofs (disch := omega) only [go_sem, ↓reduceIte, Nat.reduceEqDiff, Nat.reduceMul, Nat.reduceAdd, Nat.reduceDiv, Nat.reduceBEq, Nat.reduceLeDiff, Int.reduceToNat, Int.reduceNe, Int.reduceEq, Int.reduceLT, Int.reduceLE, Int.reduceBEq, Int.reduceBNe, ne_eq, not_true_eq_false, not_false_eq_true, decide_true, decide_false, List.length_map]
  refine branch_mk (fun hb => ?_) (fun hb => ?_)
  · simp -implicitDefEqProofs (disch := omega) only [go_sem, ↓reduceIte, Nat.reduceEqDiff, Nat.reduceMul, Nat.reduceAdd, Nat.reduceDiv, Nat.reduceBEq, Nat.reduceLeDiff, Int.reduceToNat, Int.reduceNe, Int.reduceEq, Int.reduceLT, Int.reduceLE, Int.reduceBEq, Int.reduceBNe, ne_eq, not_true_eq_false, not_false_eq_true, decide_true, decide_false, List.length_map, Try.results20]
    simp [roundT, hb]
  · have hb : debtsF l 1000000000 = true := by simpa using hb
    rw [roundT, if_pos hb]
    simp -implicitDefEqProofs (disch := omega) only [go_sem, ↓reduceIte, Nat.reduceEqDiff, Nat.reduceMul, Nat.reduceAdd, Nat.reduceDiv, Nat.reduceBEq, Nat.reduceLeDiff, Int.reduceToNat, Int.reduceNe, Int.reduceEq, Int.reduceLT, Int.reduceLE, Int.reduceBEq, Int.reduceBNe, ne_eq, not_true_eq_false, not_false_eq_true, decide_true, decide_false, List.length_map]
    refine callC_at (open_ev l hb) ?_
    simp -implicitDefEqProofs (disch := omega) only [go_sem, ↓reduceIte, Nat.reduceEqDiff, Nat.reduceMul, Nat.reduceAdd, Nat.reduceDiv, Nat.reduceBEq, Nat.reduceLeDiff, Int.reduceToNat, Int.reduceNe, Int.reduceEq, Int.reduceLT, Int.reduceLE, Int.reduceBEq, Int.reduceBNe, ne_eq, not_true_eq_false, not_false_eq_true, decide_true, decide_false, List.length_map]
    refine loopC_mk (fun n E σ => ∃ q : List Int, posN q 64 = n ∧ Netted q ∧ rndF q = rndF (bookF l) ∧ E 4 = .ptr 44040448 64 0 0 ∧ σ 44040448 = some ⟨71, 64, [BK q]⟩) (posN (bookF l) 64) ⟨bookF l, rfl, bookF_netted l hb, rfl, ?_⟩ ?_
    · simp -implicitDefEqProofs (disch := omega) only [go_sem, ↓reduceIte, Nat.reduceEqDiff, Nat.reduceMul, Nat.reduceAdd, Nat.reduceDiv, Nat.reduceBEq, Nat.reduceLeDiff, Int.reduceToNat, Int.reduceNe, Int.reduceEq, Int.reduceLT, Int.reduceLE, Int.reduceBEq, Int.reduceBNe, ne_eq, not_true_eq_false, not_false_eq_true, decide_true, decide_false, List.length_map]
    · rintro n E σ ⟨q, hn, hq, hr, h4, m4⟩
      simp -implicitDefEqProofs (disch := omega) only [go_sem, ↓reduceIte, Nat.reduceEqDiff, Nat.reduceMul, Nat.reduceAdd, Nat.reduceDiv, Nat.reduceBEq, Nat.reduceLeDiff, Int.reduceToNat, Int.reduceNe, Int.reduceEq, Int.reduceLT, Int.reduceLE, Int.reduceBEq, Int.reduceBNe, ne_eq, not_true_eq_false, not_false_eq_true, decide_true, decide_false, List.length_map, h4, m4]
      have hc := cyc_ev q hq.len
      revert hc
      cases hx : cycF (bkF q) with
      | none =>
        intro hc
        rw [cycB] at hc
        refine callC_at hc ?_
        simp -implicitDefEqProofs (disch := omega) only [go_sem, ↓reduceIte, Nat.reduceEqDiff, Nat.reduceMul, Nat.reduceAdd, Nat.reduceDiv, Nat.reduceBEq, Nat.reduceLeDiff, Int.reduceToNat, Int.reduceNe, Int.reduceEq, Int.reduceLT, Int.reduceLE, Int.reduceBEq, Int.reduceBNe, ne_eq, not_true_eq_false, not_false_eq_true, decide_true, decide_false, List.length_map, h4, m4]
        have hlv : Ev Try.prog 40 [.pt (BK q) 0] (.new 47 3 ((lstF q).map DP)) := list_ev q hq.len hq.dia
        rw [← hr, rndF_none hx]
        generalize lstF q = L at hlv
        refine callC_at hlv ?_
        simp -implicitDefEqProofs (disch := omega) only [go_sem, ↓reduceIte, Nat.reduceEqDiff, Nat.reduceMul, Nat.reduceAdd, Nat.reduceDiv, Nat.reduceBEq, Nat.reduceLeDiff, Int.reduceToNat, Int.reduceNe, Int.reduceEq, Int.reduceLT, Int.reduceLE, Int.reduceBEq, Int.reduceBNe, ne_eq, not_true_eq_false, not_false_eq_true, decide_true, decide_false, List.length_map, h4, m4, Try.results20]
      | some c =>
        intro hc
        obtain ⟨hcy, hc3, hc8⟩ := cycF_some hx
        rw [cycB] at hc
        refine callC_at hc ?_
        simp -implicitDefEqProofs (disch := omega) only [go_sem, ↓reduceIte, Nat.reduceEqDiff, Nat.reduceMul, Nat.reduceAdd, Nat.reduceDiv, Nat.reduceBEq, Nat.reduceLeDiff, Int.reduceToNat, Int.reduceNe, Int.reduceEq, Int.reduceLT, Int.reduceLE, Int.reduceBEq, Int.reduceBNe, ne_eq, not_true_eq_false, not_false_eq_true, decide_true, decide_false, List.length_map, h4, m4]
        refine loopC_mk (fun k E σ => ∃ i : Nat, i + k = c.length ∧ E 4 = .ptr 44040448 64 0 0 ∧ E 5 = .own 44040496 1 0 c.length ∧ E 7 = I (leastN (bkF q) c i) ∧ E 26 = .own 44040496 1 0 c.length ∧ E 27 = I c.length ∧ E 28 = I i ∧
          σ 44040448 = some ⟨71, 64, [BK q]⟩ ∧ σ 44040496 = some ⟨3, 1, c.map I⟩) c.length ⟨0, by omega, ?_⟩ ?_
        · simp -implicitDefEqProofs (disch := omega) only [go_sem, ↓reduceIte, Nat.reduceEqDiff, Nat.reduceMul, Nat.reduceAdd, Nat.reduceDiv, Nat.reduceBEq, Nat.reduceLeDiff, Int.reduceToNat, Int.reduceNe, Int.reduceEq, Int.reduceLT, Int.reduceLE, Int.reduceBEq, Int.reduceBNe, ne_eq, not_true_eq_false, not_false_eq_true, decide_true, decide_false, List.length_map, h4, m4]
          exact ⟨rfl, rfl⟩
        · clear h4 m4 E σ
          rintro k E σ ⟨i, hi, h4, h5, h7, h26, h27, h28, m4, m5⟩
          simp -implicitDefEqProofs (disch := omega) only [go_sem, ↓reduceIte, Nat.reduceEqDiff, Nat.reduceMul, Nat.reduceAdd, Nat.reduceDiv, Nat.reduceBEq, Nat.reduceLeDiff, Int.reduceToNat, Int.reduceNe, Int.reduceEq, Int.reduceLT, Int.reduceLE, Int.reduceBEq, Int.reduceBNe, ne_eq, not_true_eq_false, not_false_eq_true, decide_true, decide_false, List.length_map, h4, h5, h7, h26, h27, h28, m4, m5]
          refine branch_mk (fun hlt => ?_) (fun hlt => ?_)
          · have ha := hcy.1.at i (by omega)
            have hbn := nxtF_in hcy.1 i
            have e1 := mod_next i c.length (by omega)
            have e2 := mod_next' i c.length (by omega)
            have e3 : (i + 1) % c.length < c.length := Nat.mod_lt _ (by omega)
            have hlen := hq.len
            unfold nxtF at hbn
            simp -implicitDefEqProofs (disch := omega) only [go_sem, ↓reduceIte, Nat.reduceEqDiff, Nat.reduceMul, Nat.reduceAdd, Nat.reduceDiv, Nat.reduceBEq, Nat.reduceLeDiff, Int.reduceToNat, Int.reduceNe, Int.reduceEq, Int.reduceLT, Int.reduceLE, Int.reduceBEq, Int.reduceBNe, ne_eq, not_true_eq_false, not_false_eq_true, decide_true, decide_false, List.length_map, h4, h5, h7, h26, h27, h28, m4, m5, e1, e2, e3, hlen]
            refine againQ_mk (k - 1) (by omega) ⟨i + 1, by omega, ?_⟩
            simp -implicitDefEqProofs (disch := omega) only [go_sem, ↓reduceIte, Nat.reduceEqDiff, Nat.reduceMul, Nat.reduceAdd, Nat.reduceDiv, Nat.reduceBEq, Nat.reduceLeDiff, Int.reduceToNat, Int.reduceNe, Int.reduceEq, Int.reduceLT, Int.reduceLE, Int.reduceBEq, Int.reduceBNe, ne_eq, not_true_eq_false, not_false_eq_true, decide_true, decide_false, List.length_map, h4, h5, h7, h26, h27, h28, m4, m5]
            exact ⟨rfl, by simp⟩
          · have : i = c.length := by omega
            subst this
            simp -implicitDefEqProofs (disch := omega) only [go_sem, ↓reduceIte, Nat.reduceEqDiff, Nat.reduceMul, Nat.reduceAdd, Nat.reduceDiv, Nat.reduceBEq, Nat.reduceLeDiff, Int.reduceToNat, Int.reduceNe, Int.reduceEq, Int.reduceLT, Int.reduceLE, Int.reduceBEq, Int.reduceBNe, ne_eq, not_true_eq_false, not_false_eq_true, decide_true, decide_false, List.length_map, h4, h5, h7, h26, h27, h28, m4, m5]
            refine loopC_mk (fun k E σ => ∃ i : Nat, i + k = c.length ∧ E 4 = .ptr 44040448 64 0 0 ∧ E 5 = .own 44040496 1 0 c.length ∧ E 7 = I (leastN (bkF q) c c.length) ∧ E 50 = .own 44040496 1 0 c.length ∧ E 51 = I c.length ∧ E 52 = I i ∧
              σ 44040448 = some ⟨71, 64, [BK (subN q c (leastN (bkF q) c c.length) i)]⟩ ∧ σ 44040496 = some ⟨3, 1, c.map I⟩) c.length ⟨0, by omega, ?_⟩ ?_
            · simp -implicitDefEqProofs (disch := omega) only [go_sem, ↓reduceIte, Nat.reduceEqDiff, Nat.reduceMul, Nat.reduceAdd, Nat.reduceDiv, Nat.reduceBEq, Nat.reduceLeDiff, Int.reduceToNat, Int.reduceNe, Int.reduceEq, Int.reduceLT, Int.reduceLE, Int.reduceBEq, Int.reduceBNe, ne_eq, not_true_eq_false, not_false_eq_true, decide_true, decide_false, List.length_map, h4, h5, h7, h26, h27, h28, m4, m5]
              exact ⟨rfl, rfl⟩
            · clear h4 h5 h7 h26 h27 h28 m4 m5 hi hlt E σ k
              rintro k E σ ⟨i, hi, h4, h5, h7, h50, h51, h52, m4, m5⟩
              simp -implicitDefEqProofs (disch := omega) only [go_sem, ↓reduceIte, Nat.reduceEqDiff, Nat.reduceMul, Nat.reduceAdd, Nat.reduceDiv, Nat.reduceBEq, Nat.reduceLeDiff, Int.reduceToNat, Int.reduceNe, Int.reduceEq, Int.reduceLT, Int.reduceLE, Int.reduceBEq, Int.reduceBNe, ne_eq, not_true_eq_false, not_false_eq_true, decide_true, decide_false, List.length_map, h4, h5, h7, h50, h51, h52, m4, m5]
              refine branch_mk (fun hlt => ?_) (fun hlt => ?_)
              · have ha := hcy.1.at i (by omega)
                have hbn := nxtF_in hcy.1 i
                have e1 := mod_next i c.length (by omega)
                have e2 := mod_next' i c.length (by omega)
                have e3 : (i + 1) % c.length < c.length := Nat.mod_lt _ (by omega)
                obtain ⟨hlen, hat⟩ := subN_at hq.len hcy.1 (leastN (bkF q) c c.length) i (by omega)
                have hat := hat (gd c i) (nxtF c i) ha.1 ha.2 hbn.1 hbn.2
                rw [edgeB_new hcy.1 (by omega)] at hat
                have hbk := hq.bk ha hbn
                have hp := leastN_pos (bkF q) c hcy.edge c.length (Nat.le_refl _)
                have hw : IntKind.i64.wrap (gd (subN q c (leastN (bkF q) c c.length) i) ((gd c i).toNat * 8 + (nxtF c i).toNat) - leastN (bkF q) c c.length) = gd (subN q c (leastN (bkF q) c c.length) i) ((gd c i).toNat * 8 + (nxtF c i).toNat) - leastN (bkF q) c c.length := by
                  refine wrap64_of ?_
                  unfold bkF at hat hbk
                  rw [hat]
                  simp only [Bool.false_eq_true, if_false]
                  omega
                have hset : subN q c (leastN (bkF q) c c.length) (i + 1) = (subN q c (leastN (bkF q) c c.length) i).set ((gd c i).toNat * 8 + (nxtF c i).toNat) (gd (subN q c (leastN (bkF q) c c.length) i) ((gd c i).toNat * 8 + (nxtF c i).toNat) - leastN (bkF q) c c.length) := rfl
                generalize subN q c (leastN (bkF q) c c.length) i = Q at *
                unfold nxtF at hbn hw hset
                simp -implicitDefEqProofs (disch := omega) only [go_sem, ↓reduceIte, Nat.reduceEqDiff, Nat.reduceMul, Nat.reduceAdd, Nat.reduceDiv, Nat.reduceBEq, Nat.reduceLeDiff, Int.reduceToNat, Int.reduceNe, Int.reduceEq, Int.reduceLT, Int.reduceLE, Int.reduceBEq, Int.reduceBNe, ne_eq, not_true_eq_false, not_false_eq_true, decide_true, decide_false, List.length_map, h4, h5, h7, h50, h51, h52, m4, m5, e1, e2, e3, hlen, hw]
                refine againQ_mk (k - 1) (by omega) ⟨i + 1, by omega, ?_⟩
                simp -implicitDefEqProofs (disch := omega) only [go_sem, ↓reduceIte, Nat.reduceEqDiff, Nat.reduceMul, Nat.reduceAdd, Nat.reduceDiv, Nat.reduceBEq, Nat.reduceLeDiff, Int.reduceToNat, Int.reduceNe, Int.reduceEq, Int.reduceLT, Int.reduceLE, Int.reduceBEq, Int.reduceBNe, ne_eq, not_true_eq_false, not_false_eq_true, decide_true, decide_false, List.length_map, h4, h5, h7, h50, h51, h52, m4, m5, hset]
                simp
              · have : i = c.length := by omega
                subst this
                simp -implicitDefEqProofs (disch := omega) only [go_sem, ↓reduceIte, Nat.reduceEqDiff, Nat.reduceMul, Nat.reduceAdd, Nat.reduceDiv, Nat.reduceBEq, Nat.reduceLeDiff, Int.reduceToNat, Int.reduceNe, Int.reduceEq, Int.reduceLT, Int.reduceLE, Int.reduceBEq, Int.reduceBNe, ne_eq, not_true_eq_false, not_false_eq_true, decide_true, decide_false, List.length_map, h4, h5, h7, h50, h51, h52, m4, m5]
                refine againQ_mk (posN (stepF q c) 64) (hn ▸ stepF_pos hq hcy) ⟨stepF q c, rfl, stepF_netted hq hcy, ?_, ?_⟩
                · rw [← hr, ← rndF_some hq hx]
                · simp -implicitDefEqProofs (disch := omega) only [go_sem, ↓reduceIte, Nat.reduceEqDiff, Nat.reduceMul, Nat.reduceAdd, Nat.reduceDiv, Nat.reduceBEq, Nat.reduceLeDiff, Int.reduceToNat, Int.reduceNe, Int.reduceEq, Int.reduceLT, Int.reduceLE, Int.reduceBEq, Int.reduceBNe, ne_eq, not_true_eq_false, not_false_eq_true, decide_true, decide_false, List.length_map, h4, h5, h7, h50, h51, h52, m4, m5]
                  rfl
end Go.Proofs.Ytjbgckjcbmmobaa

/- The contracts of chapter 39: the reference's Round. -/
set_option maxRecDepth 100000
set_option linter.unusedSimpArgs false
namespace Go.Proofs.Ytjbgckjcbmmobaa
open Go.Vai Go Go.Proofs

/-- What the reference's 'Round' returns. -/
def roundTR (l : List Deb) : AV := if debtsF l 1000000000 = true then .tup [DL (lstF (rndF (bookF l))), Er 0] else .tup [.new 47 3 [], Er 390]
set_option maxHeartbeats 1000000 in
theorem RoundR_ev (l : List Deb) (hl : l.length ≤ 9223372036854775807) : Ev Try.prog 21 [DL l] (roundTR l) := by
  refine ev_of Try.func21 rfl (by kernel_rfl) mo (Nat.le_of_ble_eq_true rfl) ?_
  simp -implicitDefEqProofs (disch := omega) only [go_sem, ↓reduceIte, Nat.reduceEqDiff, Nat.reduceMul, Nat.reduceAdd, Nat.reduceDiv, Nat.reduceBEq, Nat.reduceLeDiff, Int.reduceToNat, Int.reduceNe, Int.reduceEq, Int.reduceLT, Int.reduceLE, Int.reduceBEq, Int.reduceBNe, ne_eq, not_true_eq_false, not_false_eq_true, decide_true, decide_false, List.length_map, Try.ntmps21]
  refine callC_at (validR_ev l hl) ?_
  simp -implicitDefEqProofs (disch := omega) only [go_sem, ↓reduceIte, Nat.reduceEqDiff, Nat.reduceMul, Nat.reduceAdd, Nat.reduceDiv, Nat.reduceBEq, Nat.reduceLeDiff, Int.reduceToNat, Int.reduceNe, Int.reduceEq, Int.reduceLT, Int.reduceLE, Int.reduceBEq, Int.reduceBNe, ne_eq, not_true_eq_false, not_false_eq_true, decide_true, decide_false, List.length_map]
  refine branch_mk (fun hb => ?_) (fun hb => ?_)
  · simp -implicitDefEqProofs (disch := omega) only [go_sem, ↓reduceIte, Nat.reduceEqDiff, Nat.reduceMul, Nat.reduceAdd, Nat.reduceDiv, Nat.reduceBEq, Nat.reduceLeDiff, Int.reduceToNat, Int.reduceNe, Int.reduceEq, Int.reduceLT, Int.reduceLE, Int.reduceBEq, Int.reduceBNe, ne_eq, not_true_eq_false, not_false_eq_true, decide_true, decide_false, List.length_map, Try.results21]
    simp [roundTR, hb]
  · have hb : debtsF l 1000000000 = true := by simpa using hb
    rw [roundTR, if_pos hb]
    simp -implicitDefEqProofs (disch := omega) only [go_sem, ↓reduceIte, Nat.reduceEqDiff, Nat.reduceMul, Nat.reduceAdd, Nat.reduceDiv, Nat.reduceBEq, Nat.reduceLeDiff, Int.reduceToNat, Int.reduceNe, Int.reduceEq, Int.reduceLT, Int.reduceLE, Int.reduceBEq, Int.reduceBNe, ne_eq, not_true_eq_false, not_false_eq_true, decide_true, decide_false, List.length_map]
    have hpr := pairsR_ev l hl
    rw [← lstF_book l hb] at hpr
    have hlen0 := lstF_length (bookF l)
    refine callC_at hpr ?_
    simp -implicitDefEqProofs (disch := omega) only [go_sem, ↓reduceIte, Nat.reduceEqDiff, Nat.reduceMul, Nat.reduceAdd, Nat.reduceDiv, Nat.reduceBEq, Nat.reduceLeDiff, Int.reduceToNat, Int.reduceNe, Int.reduceEq, Int.reduceLT, Int.reduceLE, Int.reduceBEq, Int.reduceBNe, ne_eq, not_true_eq_false, not_false_eq_true, decide_true, decide_false, List.length_map]
    refine loopC_mk (fun n E σ => ∃ (q : List Int) (x : Nat), posN q 64 = n ∧ Netted q ∧ rndF q = rndF (bookF l) ∧ (x = 46137616 ∨ x = 46137488) ∧ E 4 = .own x 3 0 (lstF q).length ∧ σ x = some ⟨47, 3, (lstF q).map DP⟩) (posN (bookF l) 64) ⟨bookF l, 46137616, rfl, bookF_netted l hb, rfl, .inl rfl, ?_⟩ ?_
    · simp -implicitDefEqProofs (disch := omega) only [go_sem, ↓reduceIte, Nat.reduceEqDiff, Nat.reduceMul, Nat.reduceAdd, Nat.reduceDiv, Nat.reduceBEq, Nat.reduceLeDiff, Int.reduceToNat, Int.reduceNe, Int.reduceEq, Int.reduceLT, Int.reduceLE, Int.reduceBEq, Int.reduceBNe, ne_eq, not_true_eq_false, not_false_eq_true, decide_true, decide_false, List.length_map]
    · rintro n E σ ⟨q, x, hn, hq, hr, hxx, h4, m4⟩
      have hL := lstF_length q
      have hc := cycR_ev (lstF q) (by omega)
      rw [cyc_list hq] at hc
      rcases hxx with rfl | rfl
      all_goals
        simp -implicitDefEqProofs (disch := omega) only [go_sem, ↓reduceIte, Nat.reduceEqDiff, Nat.reduceMul, Nat.reduceAdd, Nat.reduceDiv, Nat.reduceBEq, Nat.reduceLeDiff, Int.reduceToNat, Int.reduceNe, Int.reduceEq, Int.reduceLT, Int.reduceLE, Int.reduceBEq, Int.reduceBNe, ne_eq, not_true_eq_false, not_false_eq_true, decide_true, decide_false, List.length_map, h4, m4]
        refine callC_sem rfl ?_
        refine freeze_op [46137616, 46137488] ?_
        simp -implicitDefEqProofs (disch := omega) only [go_sem, ↓reduceIte, Nat.reduceEqDiff, Nat.reduceMul, Nat.reduceAdd, Nat.reduceDiv, Nat.reduceBEq, Nat.reduceLeDiff, Int.reduceToNat, Int.reduceNe, Int.reduceEq, Int.reduceLT, Int.reduceLE, Int.reduceBEq, Int.reduceBNe, ne_eq, not_true_eq_false, not_false_eq_true, decide_true, decide_false, List.length_map, h4, m4]
        revert hc
        cases hx : cycF (bkF q) with
        | none =>
          intro hc
          rw [cycV] at hc
          refine callC_at hc ?_
          simp -implicitDefEqProofs (disch := omega) only [go_sem, ↓reduceIte, Nat.reduceEqDiff, Nat.reduceMul, Nat.reduceAdd, Nat.reduceDiv, Nat.reduceBEq, Nat.reduceLeDiff, Int.reduceToNat, Int.reduceNe, Int.reduceEq, Int.reduceLT, Int.reduceLE, Int.reduceBEq, Int.reduceBNe, ne_eq, not_true_eq_false, not_false_eq_true, decide_true, decide_false, List.length_map, h4, m4, Try.results21]
          rw [← hr, rndF_none hx]
        | some c =>
          intro hc
          obtain ⟨hcy, hc3, hc8⟩ := cycF_some hx
          rw [cycV] at hc
          refine callC_at hc ?_
          simp -implicitDefEqProofs (disch := omega) only [go_sem, ↓reduceIte, Nat.reduceEqDiff, Nat.reduceMul, Nat.reduceAdd, Nat.reduceDiv, Nat.reduceBEq, Nat.reduceLeDiff, Int.reduceToNat, Int.reduceNe, Int.reduceEq, Int.reduceLT, Int.reduceLE, Int.reduceBEq, Int.reduceBNe, ne_eq, not_true_eq_false, not_false_eq_true, decide_true, decide_false, List.length_map, h4, m4]
          refine loopC_mk (fun k E σ => ∃ i : Nat, i + k = c.length ∧ E 4 = DL (lstF q) ∧ E 5 = SL c ∧ E 7 = I (leastN (owF (lstF q)) c i) ∧ E 8 = I i) c.length ⟨0, by omega, ?_⟩ ?_
          · simp -implicitDefEqProofs (disch := omega) only [go_sem, ↓reduceIte, Nat.reduceEqDiff, Nat.reduceMul, Nat.reduceAdd, Nat.reduceDiv, Nat.reduceBEq, Nat.reduceLeDiff, Int.reduceToNat, Int.reduceNe, Int.reduceEq, Int.reduceLT, Int.reduceLE, Int.reduceBEq, Int.reduceBNe, ne_eq, not_true_eq_false, not_false_eq_true, decide_true, decide_false, List.length_map, h4, m4]
            exact ⟨rfl, rfl⟩
          · clear h4 m4 E σ
            rintro k E σ ⟨i, hi, h4, h5, h7, h8⟩
            simp -implicitDefEqProofs (disch := omega) only [go_sem, ↓reduceIte, Nat.reduceEqDiff, Nat.reduceMul, Nat.reduceAdd, Nat.reduceDiv, Nat.reduceBEq, Nat.reduceLeDiff, Int.reduceToNat, Int.reduceNe, Int.reduceEq, Int.reduceLT, Int.reduceLE, Int.reduceBEq, Int.reduceBNe, ne_eq, not_true_eq_false, not_false_eq_true, decide_true, decide_false, List.length_map, h4, h5, h7, h8]
            refine branch_mk (fun hlt => ?_) (fun hlt => ?_)
            · have e1 := mod_next i c.length (by omega)
              have e2 := mod_next' i c.length (by omega)
              have e3 : (i + 1) % c.length < c.length := Nat.mod_lt _ (by omega)
              simp -implicitDefEqProofs (disch := omega) only [go_sem, ↓reduceIte, Nat.reduceEqDiff, Nat.reduceMul, Nat.reduceAdd, Nat.reduceDiv, Nat.reduceBEq, Nat.reduceLeDiff, Int.reduceToNat, Int.reduceNe, Int.reduceEq, Int.reduceLT, Int.reduceLE, Int.reduceBEq, Int.reduceBNe, ne_eq, not_true_eq_false, not_false_eq_true, decide_true, decide_false, List.length_map, h4, h5, h7, h8, e1, e2, e3]
              refine callC_at (owes_ev (lstF q) _ _ (by omega)) ?_
              simp -implicitDefEqProofs (disch := omega) only [go_sem, ↓reduceIte, Nat.reduceEqDiff, Nat.reduceMul, Nat.reduceAdd, Nat.reduceDiv, Nat.reduceBEq, Nat.reduceLeDiff, Int.reduceToNat, Int.reduceNe, Int.reduceEq, Int.reduceLT, Int.reduceLE, Int.reduceBEq, Int.reduceBNe, ne_eq, not_true_eq_false, not_false_eq_true, decide_true, decide_false, List.length_map, h4, h5, h7, h8, e1, e2, e3]
              refine againQ_mk (k - 1) (by omega) ⟨i + 1, by omega, ?_⟩
              simp -implicitDefEqProofs (disch := omega) only [go_sem, ↓reduceIte, Nat.reduceEqDiff, Nat.reduceMul, Nat.reduceAdd, Nat.reduceDiv, Nat.reduceBEq, Nat.reduceLeDiff, Int.reduceToNat, Int.reduceNe, Int.reduceEq, Int.reduceLT, Int.reduceLE, Int.reduceBEq, Int.reduceBNe, ne_eq, not_true_eq_false, not_false_eq_true, decide_true, decide_false, List.length_map, h4, h5, h7, h8, e1, e2, e3]
              exact ⟨rfl, by simp⟩
            · have : i = c.length := by omega
              subst this
              rw [least_list hq hcy _ (Nat.le_refl _)] at h7
              have hp := leastN_pos (bkF q) c hcy.edge c.length (Nat.le_refl _)
              have hcut := cut_list hq hcy
              have hok := lstF_ok hq
              generalize leastN (bkF q) c c.length = M at *
              generalize lstF q = K at *
              simp -implicitDefEqProofs (disch := omega) only [go_sem, ↓reduceIte, Nat.reduceEqDiff, Nat.reduceMul, Nat.reduceAdd, Nat.reduceDiv, Nat.reduceBEq, Nat.reduceLeDiff, Int.reduceToNat, Int.reduceNe, Int.reduceEq, Int.reduceLT, Int.reduceLE, Int.reduceBEq, Int.reduceBNe, ne_eq, not_true_eq_false, not_false_eq_true, decide_true, decide_false, List.length_map, h4, h5, h7, h8]
              refine loopC_mk (fun k E σ => ∃ (v : Nat), v + k = K.length ∧ E 4 = DL K ∧ E 5 = SL c ∧ E 7 = I M ∧ E 9 = .own 46137488 3 0 ((K.take v).filterMap (cutD c M)).length ∧ E 10 = I v ∧
                σ 46137488 = some ⟨47, 3, ((K.take v).filterMap (cutD c M)).map DP⟩) K.length ⟨0, by omega, ?_⟩ ?_
              · simp -implicitDefEqProofs (disch := omega) only [go_sem, ↓reduceIte, Nat.reduceEqDiff, Nat.reduceMul, Nat.reduceAdd, Nat.reduceDiv, Nat.reduceBEq, Nat.reduceLeDiff, Int.reduceToNat, Int.reduceNe, Int.reduceEq, Int.reduceLT, Int.reduceLE, Int.reduceBEq, Int.reduceBNe, ne_eq, not_true_eq_false, not_false_eq_true, decide_true, decide_false, List.length_map, h4, h5, h7, h8]
                exact ⟨rfl, rfl, rfl⟩
              · clear h4 h5 h7 h8 hi hlt E σ k
                rintro k1 E σ ⟨v, hv, h4, h5, h7, h9, h10, m9⟩
                have hml : ((K.take v).filterMap (cutD c M)).length ≤ v := by
                  have := List.length_filterMap_le (cutD c M) (K.take v)
                  rw [List.length_take] at this; omega
                have htk : v < K.length → (K.take (v + 1)).filterMap (cutD c M) = (K.take v).filterMap (cutD c M) ++ (cutD c M (gd K v)).toList := fun hlt => by
                  rw [List.take_add_one, gd_some _ v hlt, List.filterMap_append]
                  simp only [Option.toList_some, List.filterMap_cons, List.filterMap_nil]
                  cases cutD c M (gd K v) <;> rfl
                simp -implicitDefEqProofs (disch := omega) only [go_sem, ↓reduceIte, Nat.reduceEqDiff, Nat.reduceMul, Nat.reduceAdd, Nat.reduceDiv, Nat.reduceBEq, Nat.reduceLeDiff, Int.reduceToNat, Int.reduceNe, Int.reduceEq, Int.reduceLT, Int.reduceLE, Int.reduceBEq, Int.reduceBNe, ne_eq, not_true_eq_false, not_false_eq_true, decide_true, decide_false, List.length_map, h4, h5, h7, h9, h10, m9]
                refine branch_mk (fun hlt => ?_) (fun hlt => ?_)
                · have htk := htk (by omega)
                  have hbd := hok v (by omega)
                  generalize (K.take v).filterMap (cutD c M) = m at *
                  simp -implicitDefEqProofs (disch := omega) only [go_sem, ↓reduceIte, Nat.reduceEqDiff, Nat.reduceMul, Nat.reduceAdd, Nat.reduceDiv, Nat.reduceBEq, Nat.reduceLeDiff, Int.reduceToNat, Int.reduceNe, Int.reduceEq, Int.reduceLT, Int.reduceLE, Int.reduceBEq, Int.reduceBNe, ne_eq, not_true_eq_false, not_false_eq_true, decide_true, decide_false, List.length_map, h4, h5, h7, h9, h10, m9]
                  refine loopC_mk (fun k E σ => ∃ (j : Nat), j + k = c.length ∧ E 4 = DL K ∧ E 5 = SL c ∧ E 7 = I M ∧ E 9 = .own 46137488 3 0 m.length ∧ E 10 = I v ∧ E 11 = .ptr 46137520 3 0 0 ∧ E 12 = I j ∧
                    σ 46137488 = some ⟨47, 3, m.map DP⟩ ∧ σ 46137520 = some ⟨47, 3, [DP ((gd K v).1, (gd K v).2.1, cutN c M (gd K v) j)]⟩) c.length ⟨0, by omega, ?_⟩ ?_
                  · simp -implicitDefEqProofs (disch := omega) only [go_sem, ↓reduceIte, Nat.reduceEqDiff, Nat.reduceMul, Nat.reduceAdd, Nat.reduceDiv, Nat.reduceBEq, Nat.reduceLeDiff, Int.reduceToNat, Int.reduceNe, Int.reduceEq, Int.reduceLT, Int.reduceLE, Int.reduceBEq, Int.reduceBNe, ne_eq, not_true_eq_false, not_false_eq_true, decide_true, decide_false, List.length_map, h4, h5, h7, h9, h10, m9]
                    rw [cutN]
                    exact ⟨rfl, rfl⟩
                  · clear h4 h5 h7 h9 h10 m9 E σ
                    rintro k E σ ⟨j, hj, h4, h5, h7, h9, h10, h11, h12, m9, m11⟩
                    simp -implicitDefEqProofs (disch := omega) only [go_sem, ↓reduceIte, Nat.reduceEqDiff, Nat.reduceMul, Nat.reduceAdd, Nat.reduceDiv, Nat.reduceBEq, Nat.reduceLeDiff, Int.reduceToNat, Int.reduceNe, Int.reduceEq, Int.reduceLT, Int.reduceLE, Int.reduceBEq, Int.reduceBNe, ne_eq, not_true_eq_false, not_false_eq_true, decide_true, decide_false, List.length_map, h4, h5, h7, h9, h10, h11, h12, m9, m11]
                    refine branch_mk (fun hlt2 => ?_) (fun hlt2 => ?_)
                    · have e1 := mod_next j c.length (by omega)
                      have e2 := mod_next' j c.length (by omega)
                      have e3 : (j + 1) % c.length < c.length := Nat.mod_lt _ (by omega)
                      simp -implicitDefEqProofs (disch := omega) only [go_sem, ↓reduceIte, Nat.reduceEqDiff, Nat.reduceMul, Nat.reduceAdd, Nat.reduceDiv, Nat.reduceBEq, Nat.reduceLeDiff, Int.reduceToNat, Int.reduceNe, Int.reduceEq, Int.reduceLT, Int.reduceLE, Int.reduceBEq, Int.reduceBNe, ne_eq, not_true_eq_false, not_false_eq_true, decide_true, decide_false, List.length_map, h4, h5, h7, h9, h10, h11, h12, m9, m11, e1, e2, e3]
                      refine branch_mk (fun hf => ?_) (fun hf => ?_)
                      · simp -implicitDefEqProofs (disch := omega) only [go_sem, ↓reduceIte, Nat.reduceEqDiff, Nat.reduceMul, Nat.reduceAdd, Nat.reduceDiv, Nat.reduceBEq, Nat.reduceLeDiff, Int.reduceToNat, Int.reduceNe, Int.reduceEq, Int.reduceLT, Int.reduceLE, Int.reduceBEq, Int.reduceBNe, ne_eq, not_true_eq_false, not_false_eq_true, decide_true, decide_false, List.length_map, h4, h5, h7, h9, h10, h11, h12, m9, m11, e1, e2, e3]
                        refine branch_mk (fun ht => ?_) (fun ht => ?_)
                        · simp -implicitDefEqProofs (disch := omega) only [go_sem, ↓reduceIte, Nat.reduceEqDiff, Nat.reduceMul, Nat.reduceAdd, Nat.reduceDiv, Nat.reduceBEq, Nat.reduceLeDiff, Int.reduceToNat, Int.reduceNe, Int.reduceEq, Int.reduceLT, Int.reduceLE, Int.reduceBEq, Int.reduceBNe, ne_eq, not_true_eq_false, not_false_eq_true, decide_true, decide_false, List.length_map, h4, h5, h7, h9, h10, h11, h12, m9, m11, e1, e2, e3]
                          refine againQ_mk (k - 1) (by omega) ⟨j + 1, by omega, ?_⟩
                          simp -implicitDefEqProofs (disch := omega) only [go_sem, ↓reduceIte, Nat.reduceEqDiff, Nat.reduceMul, Nat.reduceAdd, Nat.reduceDiv, Nat.reduceBEq, Nat.reduceLeDiff, Int.reduceToNat, Int.reduceNe, Int.reduceEq, Int.reduceLT, Int.reduceLE, Int.reduceBEq, Int.reduceBNe, ne_eq, not_true_eq_false, not_false_eq_true, decide_true, decide_false, List.length_map, h4, h5, h7, h9, h10, h11, h12, m9, m11, e1, e2, e3, false_and, and_self, ite_false]
                          rw [cutN, if_pos ⟨hf, ht⟩]
                          exact ⟨by simp, rfl⟩
                        · simp -implicitDefEqProofs (disch := omega) only [go_sem, ↓reduceIte, Nat.reduceEqDiff, Nat.reduceMul, Nat.reduceAdd, Nat.reduceDiv, Nat.reduceBEq, Nat.reduceLeDiff, Int.reduceToNat, Int.reduceNe, Int.reduceEq, Int.reduceLT, Int.reduceLE, Int.reduceBEq, Int.reduceBNe, ne_eq, not_true_eq_false, not_false_eq_true, decide_true, decide_false, List.length_map, h4, h5, h7, h9, h10, h11, h12, m9, m11, e1, e2, e3]
                          refine againQ_mk (k - 1) (by omega) ⟨j + 1, by omega, ?_⟩
                          simp -implicitDefEqProofs (disch := omega) only [go_sem, ↓reduceIte, Nat.reduceEqDiff, Nat.reduceMul, Nat.reduceAdd, Nat.reduceDiv, Nat.reduceBEq, Nat.reduceLeDiff, Int.reduceToNat, Int.reduceNe, Int.reduceEq, Int.reduceLT, Int.reduceLE, Int.reduceBEq, Int.reduceBNe, ne_eq, not_true_eq_false, not_false_eq_true, decide_true, decide_false, List.length_map, h4, h5, h7, h9, h10, h11, h12, m9, m11, e1, e2, e3]
                          rw [cutN, if_neg (fun e => ht e.2)]
                          exact ⟨by simp, rfl⟩
                      · simp -implicitDefEqProofs (disch := omega) only [go_sem, ↓reduceIte, Nat.reduceEqDiff, Nat.reduceMul, Nat.reduceAdd, Nat.reduceDiv, Nat.reduceBEq, Nat.reduceLeDiff, Int.reduceToNat, Int.reduceNe, Int.reduceEq, Int.reduceLT, Int.reduceLE, Int.reduceBEq, Int.reduceBNe, ne_eq, not_true_eq_false, not_false_eq_true, decide_true, decide_false, List.length_map, h4, h5, h7, h9, h10, h11, h12, m9, m11, e1, e2, e3]
                        refine againQ_mk (k - 1) (by omega) ⟨j + 1, by omega, ?_⟩
                        simp -implicitDefEqProofs (disch := omega) only [go_sem, ↓reduceIte, Nat.reduceEqDiff, Nat.reduceMul, Nat.reduceAdd, Nat.reduceDiv, Nat.reduceBEq, Nat.reduceLeDiff, Int.reduceToNat, Int.reduceNe, Int.reduceEq, Int.reduceLT, Int.reduceLE, Int.reduceBEq, Int.reduceBNe, ne_eq, not_true_eq_false, not_false_eq_true, decide_true, decide_false, List.length_map, h4, h5, h7, h9, h10, h11, h12, m9, m11, e1, e2, e3]
                        rw [cutN, if_neg (fun e => hf e.1)]
                        exact ⟨by simp, rfl⟩
                    · have : j = c.length := by omega
                      subst this
                      simp -implicitDefEqProofs (disch := omega) only [go_sem, ↓reduceIte, Nat.reduceEqDiff, Nat.reduceMul, Nat.reduceAdd, Nat.reduceDiv, Nat.reduceBEq, Nat.reduceLeDiff, Int.reduceToNat, Int.reduceNe, Int.reduceEq, Int.reduceLT, Int.reduceLE, Int.reduceBEq, Int.reduceBNe, ne_eq, not_true_eq_false, not_false_eq_true, decide_true, decide_false, List.length_map, h4, h5, h7, h9, h10, h11, h12, m9, m11]
                      refine branch_mk (fun hpp => ?_) (fun hpp => ?_)
                      · rw [cutD, if_pos hpp, Option.toList_some] at htk
                        simp -implicitDefEqProofs (disch := omega) only [go_sem, ↓reduceIte, Nat.reduceEqDiff, Nat.reduceMul, Nat.reduceAdd, Nat.reduceDiv, Nat.reduceBEq, Nat.reduceLeDiff, Int.reduceToNat, Int.reduceNe, Int.reduceEq, Int.reduceLT, Int.reduceLE, Int.reduceBEq, Int.reduceBNe, ne_eq, not_true_eq_false, not_false_eq_true, decide_true, decide_false, List.length_map, h4, h5, h7, h9, h10, h11, h12, m9, m11]
                        refine againQ_mk (k1 - 1) (by omega) ⟨v + 1, by omega, ?_⟩
                        simp -implicitDefEqProofs (disch := omega) only [go_sem, ↓reduceIte, Nat.reduceEqDiff, Nat.reduceMul, Nat.reduceAdd, Nat.reduceDiv, Nat.reduceBEq, Nat.reduceLeDiff, Int.reduceToNat, Int.reduceNe, Int.reduceEq, Int.reduceLT, Int.reduceLE, Int.reduceBEq, Int.reduceBNe, ne_eq, not_true_eq_false, not_false_eq_true, decide_true, decide_false, List.length_map, h4, h5, h7, h9, h10, h11, h12, m9, m11, htk]
                        simp
                      · rw [cutD, if_neg hpp, Option.toList_none, List.append_nil] at htk
                        simp -implicitDefEqProofs (disch := omega) only [go_sem, ↓reduceIte, Nat.reduceEqDiff, Nat.reduceMul, Nat.reduceAdd, Nat.reduceDiv, Nat.reduceBEq, Nat.reduceLeDiff, Int.reduceToNat, Int.reduceNe, Int.reduceEq, Int.reduceLT, Int.reduceLE, Int.reduceBEq, Int.reduceBNe, ne_eq, not_true_eq_false, not_false_eq_true, decide_true, decide_false, List.length_map, h4, h5, h7, h9, h10, h11, h12, m9, m11]
                        refine againQ_mk (k1 - 1) (by omega) ⟨v + 1, by omega, ?_⟩
                        simp -implicitDefEqProofs (disch := omega) only [go_sem, ↓reduceIte, Nat.reduceEqDiff, Nat.reduceMul, Nat.reduceAdd, Nat.reduceDiv, Nat.reduceBEq, Nat.reduceLeDiff, Int.reduceToNat, Int.reduceNe, Int.reduceEq, Int.reduceLT, Int.reduceLE, Int.reduceBEq, Int.reduceBNe, ne_eq, not_true_eq_false, not_false_eq_true, decide_true, decide_false, List.length_map, h4, h5, h7, h9, h10, h11, h12, m9, m11, htk]
                        simp
                · have : v = K.length := by omega
                  subst this
                  simp -implicitDefEqProofs (disch := omega) only [go_sem, ↓reduceIte, Nat.reduceEqDiff, Nat.reduceMul, Nat.reduceAdd, Nat.reduceDiv, Nat.reduceBEq, Nat.reduceLeDiff, Int.reduceToNat, Int.reduceNe, Int.reduceEq, Int.reduceLT, Int.reduceLE, Int.reduceBEq, Int.reduceBNe, ne_eq, not_true_eq_false, not_false_eq_true, decide_true, decide_false, List.length_map, h4, h5, h7, h9, h10, m9]
                  rw [List.take_length] at h9 m9
                  rw [hcut] at h9 m9
                  clear htk
                  refine againQ_mk (posN (stepF q c) 64) (hn ▸ stepF_pos hq hcy) ⟨stepF q c, 46137488, rfl, stepF_netted hq hcy, ?_, .inr rfl, ?_⟩
                  · rw [← hr, ← rndF_some hq hx]
                  · simp -implicitDefEqProofs (disch := omega) only [go_sem, ↓reduceIte, Nat.reduceEqDiff, Nat.reduceMul, Nat.reduceAdd, Nat.reduceDiv, Nat.reduceBEq, Nat.reduceLeDiff, Int.reduceToNat, Int.reduceNe, Int.reduceEq, Int.reduceLT, Int.reduceLE, Int.reduceBEq, Int.reduceBNe, ne_eq, not_true_eq_false, not_false_eq_true, decide_true, decide_false, List.length_map, h4, h5, h7, h9, h10, m9, hcut]
end Go.Proofs.Ytjbgckjcbmmobaa

/- The contracts of chapter 39: the first carrier of a set whose balance has a sign. -/
set_option maxRecDepth 100000
set_option linter.unusedSimpArgs false
namespace Go.Proofs.Ytjbgckjcbmmobaa
open Go.Vai Go Go.Proofs

theorem sel_ev (l : List Int) (s : Nat) (sg : Int) (c : Nat) (hl : l.length = 8) (hs : s < 256) (hsg : sg = 1 ∨ sg = -1) (hc : c < 8) (hr : ∀ i, i < 8 → -1000000000000 ≤ gd l i ∧ gd l i ≤ 1000000000000) :
    Ev Try.prog 52 [I c, .pt (I s) 0, .pt (I sg) 0, .pt (SL l) 0] (B (selB l s sg c)) := by
  have hw : IntKind.i64.wrap (sg * gd l c) = sg * gd l c := by
    have := hr c hc
    rcases hsg with rfl | rfl
    · exact wrap64_of (by omega)
    · exact wrap64_of (by omega)
  have e1 := bit_test (s := s) (c := c) (by omega) (by omega)
  refine ev_of Try.func52 rfl (by kernel_rfl) mo (Nat.le_of_ble_eq_true rfl) ?_
  simp -implicitDefEqProofs (disch := omega) only [go_sem, ↓reduceIte, Nat.reduceEqDiff, Nat.reduceMul, Nat.reduceAdd, Nat.reduceDiv, Nat.reduceBEq, Nat.reduceLeDiff, Int.reduceToNat, Int.reduceNe, Int.reduceEq, Int.reduceLT, Int.reduceLE, Int.reduceBEq, Int.reduceBNe, ne_eq, not_true_eq_false, not_false_eq_true, decide_true, decide_false, List.length_map, Try.ntmps52]
  refine branch_mk (fun hb => ?_) (fun hb => ?_)
  · simp -implicitDefEqProofs (disch := omega) only [go_sem, ↓reduceIte, Nat.reduceEqDiff, Nat.reduceMul, Nat.reduceAdd, Nat.reduceDiv, Nat.reduceBEq, Nat.reduceLeDiff, Int.reduceToNat, Int.reduceNe, Int.reduceEq, Int.reduceLT, Int.reduceLE, Int.reduceBEq, Int.reduceBNe, ne_eq, not_true_eq_false, not_false_eq_true, decide_true, decide_false, List.length_map, hl, hw, Try.results52]
    rw [selB, e1.1 hb]; simp
  · simp -implicitDefEqProofs (disch := omega) only [go_sem, ↓reduceIte, Nat.reduceEqDiff, Nat.reduceMul, Nat.reduceAdd, Nat.reduceDiv, Nat.reduceBEq, Nat.reduceLeDiff, Int.reduceToNat, Int.reduceNe, Int.reduceEq, Int.reduceLT, Int.reduceLE, Int.reduceBEq, Int.reduceBNe, ne_eq, not_true_eq_false, not_false_eq_true, decide_true, decide_false, List.length_map, hl, Try.results52]
    have hb : s.testBit c = false := by
      cases h : s.testBit c with
      | false => rfl
      | true => exact absurd (e1.2 h) hb
    rw [selB, hb]; simp
theorem indexF_ev (l : List Int) (s : Nat) (sg : Int) (hl : l.length = 8) (hs : s < 256) (hsg : sg = 1 ∨ sg = -1) (hr : ∀ i, i < 8 → -1000000000000 ≤ gd l i ∧ gd l i ≤ 1000000000000) :
    Ev Try.prog 51 [SL [0, 1, 2, 3, 4, 5, 6, 7], .clo 52 [.pt (I s) 0, .pt (I sg) 0, .pt (SL l) 0]] (I (selF l s sg 0 8)) := by
  refine ev_of Try.func51 rfl (by kernel_rfl) mo (Nat.le_of_ble_eq_true rfl) ?_
  have hg : ∀ v : Nat, v < 8 → gd [0, 1, 2, 3, 4, 5, 6, 7] v = (v : Int) := fun v hv => by
    have : v = 0 ∨ v = 1 ∨ v = 2 ∨ v = 3 ∨ v = 4 ∨ v = 5 ∨ v = 6 ∨ v = 7 := by omega
    rcases this with rfl | rfl | rfl | rfl | rfl | rfl | rfl | rfl <;> rfl
  have hq : ([0, 1, 2, 3, 4, 5, 6, 7] : List Int).length = 8 := rfl
  generalize ([0, 1, 2, 3, 4, 5, 6, 7] : List Int) = q at hg hq
  generalize hG : selF l s sg 0 8 = G
  simp -implicitDefEqProofs (disch := omega) only [go_sem, ↓reduceIte, Nat.reduceEqDiff, Nat.reduceMul, Nat.reduceAdd, Nat.reduceDiv, Nat.reduceBEq, Nat.reduceLeDiff, Int.reduceToNat, Int.reduceNe, Int.reduceEq, Int.reduceLT, Int.reduceLE, Int.reduceBEq, Int.reduceBNe, ne_eq, not_true_eq_false, not_false_eq_true, decide_true, decide_false, List.length_map, Try.ntmps51]
  refine loopC_mk (fun n E σ => ∃ v : Nat, v + n = 8 ∧ E 0 = SL q ∧ E 1 = .clo 52 [.pt (I s) 0, .pt (I sg) 0, .pt (SL l) 0] ∧ E 7 = I q.length ∧ E 8 = I v ∧ G = selF l s sg v n) 8 ⟨0, by omega, ?_⟩ ?_
  · simp -implicitDefEqProofs (disch := omega) only [go_sem, ↓reduceIte, Nat.reduceEqDiff, Nat.reduceMul, Nat.reduceAdd, Nat.reduceDiv, Nat.reduceBEq, Nat.reduceLeDiff, Int.reduceToNat, Int.reduceNe, Int.reduceEq, Int.reduceLT, Int.reduceLE, Int.reduceBEq, Int.reduceBNe, ne_eq, not_true_eq_false, not_false_eq_true, decide_true, decide_false, List.length_map]
    exact ⟨rfl, hG.symm⟩
  · rintro n E σ ⟨v, hv, h0, h1, h7, h8, hx⟩
    simp -implicitDefEqProofs (disch := omega) only [go_sem, ↓reduceIte, Nat.reduceEqDiff, Nat.reduceMul, Nat.reduceAdd, Nat.reduceDiv, Nat.reduceBEq, Nat.reduceLeDiff, Int.reduceToNat, Int.reduceNe, Int.reduceEq, Int.reduceLT, Int.reduceLE, Int.reduceBEq, Int.reduceBNe, ne_eq, not_true_eq_false, not_false_eq_true, decide_true, decide_false, List.length_map, h0, h1, h7, h8, hq]
    refine branch_mk (fun hc => ?_) (fun hc => ?_)
    · have hgv := hg v (by omega)
      obtain ⟨n, rfl⟩ : ∃ m, n = m + 1 := ⟨n - 1, by omega⟩
      rw [selF] at hx
      simp -implicitDefEqProofs (disch := omega) only [go_sem, ↓reduceIte, Nat.reduceEqDiff, Nat.reduceMul, Nat.reduceAdd, Nat.reduceDiv, Nat.reduceBEq, Nat.reduceLeDiff, Int.reduceToNat, Int.reduceNe, Int.reduceEq, Int.reduceLT, Int.reduceLE, Int.reduceBEq, Int.reduceBNe, ne_eq, not_true_eq_false, not_false_eq_true, decide_true, decide_false, List.length_map, h0, h1, h7, h8, hq, hgv]
      refine callC_at (sel_ev l s sg v hl hs hsg (by omega) hr) ?_
      simp -implicitDefEqProofs (disch := omega) only [go_sem, ↓reduceIte, Nat.reduceEqDiff, Nat.reduceMul, Nat.reduceAdd, Nat.reduceDiv, Nat.reduceBEq, Nat.reduceLeDiff, Int.reduceToNat, Int.reduceNe, Int.reduceEq, Int.reduceLT, Int.reduceLE, Int.reduceBEq, Int.reduceBNe, ne_eq, not_true_eq_false, not_false_eq_true, decide_true, decide_false, List.length_map, h0, h1, h7, h8, hq, hgv]
      refine branch_mk (fun hb => ?_) (fun hb => ?_)
      · rw [if_pos hb] at hx
        simp -implicitDefEqProofs (disch := omega) only [go_sem, ↓reduceIte, Nat.reduceEqDiff, Nat.reduceMul, Nat.reduceAdd, Nat.reduceDiv, Nat.reduceBEq, Nat.reduceLeDiff, Int.reduceToNat, Int.reduceNe, Int.reduceEq, Int.reduceLT, Int.reduceLE, Int.reduceBEq, Int.reduceBNe, ne_eq, not_true_eq_false, not_false_eq_true, decide_true, decide_false, List.length_map, h0, h1, h7, h8, hq, hgv, Try.results51]
        rw [hx]
      · rw [if_neg hb] at hx
        simp -implicitDefEqProofs (disch := omega) only [go_sem, ↓reduceIte, Nat.reduceEqDiff, Nat.reduceMul, Nat.reduceAdd, Nat.reduceDiv, Nat.reduceBEq, Nat.reduceLeDiff, Int.reduceToNat, Int.reduceNe, Int.reduceEq, Int.reduceLT, Int.reduceLE, Int.reduceBEq, Int.reduceBNe, ne_eq, not_true_eq_false, not_false_eq_true, decide_true, decide_false, List.length_map, h0, h1, h7, h8, hq, hgv]
        refine againQ_mk n (by omega) ⟨v + 1, by omega, ?_⟩
        simp -implicitDefEqProofs (disch := omega) only [go_sem, ↓reduceIte, Nat.reduceEqDiff, Nat.reduceMul, Nat.reduceAdd, Nat.reduceDiv, Nat.reduceBEq, Nat.reduceLeDiff, Int.reduceToNat, Int.reduceNe, Int.reduceEq, Int.reduceLT, Int.reduceLE, Int.reduceBEq, Int.reduceBNe, ne_eq, not_true_eq_false, not_false_eq_true, decide_true, decide_false, List.length_map, h0, h1, h7, h8, hq, hgv]
        exact ⟨by simp, hx⟩
    · have : n = 0 := by omega
      subst this
      simp -implicitDefEqProofs (disch := omega) only [go_sem, ↓reduceIte, Nat.reduceEqDiff, Nat.reduceMul, Nat.reduceAdd, Nat.reduceDiv, Nat.reduceBEq, Nat.reduceLeDiff, Int.reduceToNat, Int.reduceNe, Int.reduceEq, Int.reduceLT, Int.reduceLE, Int.reduceBEq, Int.reduceBNe, ne_eq, not_true_eq_false, not_false_eq_true, decide_true, decide_false, List.length_map, h0, h1, h7, h8, hq, Try.results51]
      rw [hx, selF]
theorem next_ev (l : List Int) (s : Nat) (sg : Int) (hl : l.length = 8) (hs : s < 256) (hsg : sg = 1 ∨ sg = -1) (hr : ∀ i, i < 8 → -1000000000000 ≤ gd l i ∧ gd l i ≤ 1000000000000) :
    Ev Try.prog 50 [I s, I sg, .pt (SL l) 0] (I (selF l s sg 0 8)) := by
  refine ev_of Try.func50 rfl (by kernel_rfl) mo (Nat.le_of_ble_eq_true rfl) ?_
  simp -implicitDefEqProofs (disch := omega) only [go_sem, ↓reduceIte, Nat.reduceEqDiff, Nat.reduceMul, Nat.reduceAdd, Nat.reduceDiv, Nat.reduceBEq, Nat.reduceLeDiff, Int.reduceToNat, Int.reduceNe, Int.reduceEq, Int.reduceLT, Int.reduceLE, Int.reduceBEq, Int.reduceBNe, ne_eq, not_true_eq_false, not_false_eq_true, decide_true, decide_false, List.length_map, Try.ntmps50]
  refine callC_at (indexF_ev l s sg hl hs hsg hr) ?_
  simp -implicitDefEqProofs (disch := omega) only [go_sem, ↓reduceIte, Nat.reduceEqDiff, Nat.reduceMul, Nat.reduceAdd, Nat.reduceDiv, Nat.reduceBEq, Nat.reduceLeDiff, Int.reduceToNat, Int.reduceNe, Int.reduceEq, Int.reduceLT, Int.reduceLE, Int.reduceBEq, Int.reduceBNe, ne_eq, not_true_eq_false, not_false_eq_true, decide_true, decide_false, List.length_map, Try.results50]
end Go.Proofs.Ytjbgckjcbmmobaa

/- The contracts of chapter 39: the sets that have a carrier, handed to yield. -/
set_option maxRecDepth 100000
set_option linter.unusedSimpArgs false
namespace Go.Proofs.Ytjbgckjcbmmobaa
open Go.Vai Go Go.Proofs

abbrev YS (s : Nat) : List AV := [I (s : Int)]
@[go_sem] theorem namesL_sets (p : Nat → Bool) (l : List Nat) : AV.namesL p ((l.map YS).map .tup) = false := by
  rw [List.map_map]; exact namesL_map p l _ fun _ => rfl
theorem sets_ev (all c : Nat) : Ev Try.prog 66 [I all, I c] (.clo 67 [.nptr 3 1 [I all], .nptr 3 1 [I c]]) := by
  refine ev_of Try.func66 rfl (by kernel_rfl) mo (Nat.le_of_ble_eq_true rfl) ?_
  simp -implicitDefEqProofs (disch := omega) only [go_sem, ↓reduceIte, Nat.reduceEqDiff, Nat.reduceMul, Nat.reduceAdd, Nat.reduceDiv, Nat.reduceBEq, Nat.reduceLeDiff, Int.reduceToNat, Int.reduceNe, Int.reduceEq, Int.reduceLT, Int.reduceLE, Int.reduceBEq, Int.reduceBNe, ne_eq, not_true_eq_false, not_false_eq_true, decide_true, decide_false, List.length_map, Try.ntmps66, Try.results66]
theorem sets_sok (all c a b : Nat) (σ : Store) (h8 : all < 256) (hc : c < 8) (ha : σ a = some ⟨3, 1, [I all]⟩) (hb : σ b = some ⟨3, 1, [I c]⟩) (hA : a / 16 < 8912896 ∨ 9012896 ≤ a / 16) (hB : b / 16 < 8912896 ∨ 9012896 ≤ b / 16) :
    SOK Try.prog 67 [.ptr a 1 0 0, .ptr b 1 0 0] σ ((setsF all c).map YS) := by
  have e1 : IntKind.i64.wrap (1 * 2 ^ min c 64) = ((2 ^ c : Nat) : Int) := shl_min (by omega)
  have hp : 2 ^ c < 256 := Nat.lt_of_lt_of_le (Nat.pow_lt_pow_right (by omega) hc) (Nat.le_refl _)
  have e2 : bitsI .andNot .i64 (all : Int) ((2 ^ c : Nat) : Int) = ((lessN all (2 ^ c) : Nat) : Int) := andNot_nat (by omega) (by omega)
  have hl : lessN all (2 ^ c) < 256 := Nat.lt_of_le_of_lt (lessN_le _ _) h8
  unfold setsF
  generalize hR : lessN all (2 ^ c) = R at *
  refine sok_of Try.func67 rfl (by kernel_rfl) mo (Nat.le_of_ble_eq_true rfl) ?_ rfl fun l => ?_
  · exact namesL_sets allB _
  · simp -implicitDefEqProofs (disch := omega) only [go_sem, ↓reduceIte, Nat.reduceEqDiff, Nat.reduceMul, Nat.reduceAdd, Nat.reduceDiv, Nat.reduceBEq, Nat.reduceLeDiff, Int.reduceToNat, Int.reduceNe, Int.reduceEq, Int.reduceLT, Int.reduceLE, Int.reduceBEq, Int.reduceBNe, ne_eq, not_true_eq_false, not_false_eq_true, decide_true, decide_false, List.length_map, Try.ntmps67, ha, hb, e1, e2]
    refine loopC_mk (fun n E σ => ∃ s : Nat, s < n ∧ s < 256 ∧ E 0 = .yld l ∧ E 2 = .ptr b 1 0 0 ∧ E 4 = I R ∧ E 5 = I s ∧ E 26 = .tup ((((subsN R n s).map (· ||| 2 ^ c)).map YS).map .tup) ∧ σ b = some ⟨3, 1, [I c]⟩) 256 ⟨R, by omega, by omega, ?_⟩ ?_
    · simp -implicitDefEqProofs (disch := omega) only [go_sem, ↓reduceIte, Nat.reduceEqDiff, Nat.reduceMul, Nat.reduceAdd, Nat.reduceDiv, Nat.reduceBEq, Nat.reduceLeDiff, Int.reduceToNat, Int.reduceNe, Int.reduceEq, Int.reduceLT, Int.reduceLE, Int.reduceBEq, Int.reduceBNe, ne_eq, not_true_eq_false, not_false_eq_true, decide_true, decide_false, List.length_map, ha, hb]
    · clear ha hb σ
      rintro n E σ ⟨s, hn, hs8, h0, h2, h4, h5, h26, hb⟩
      obtain ⟨m, rfl⟩ : ∃ m, n = m + 1 := ⟨n - 1, by omega⟩
      have e3 : bitsI .or .i64 (s : Int) ((2 ^ c : Nat) : Int) = ((s ||| 2 ^ c : Nat) : Int) := or_nat (by omega) (by omega)
      by_cases h0s : s = 0
      · subst h0s
        rw [subsN, if_pos rfl] at h26
        simp -implicitDefEqProofs (disch := omega) only [go_sem, ↓reduceIte, Nat.reduceEqDiff, Nat.reduceMul, Nat.reduceAdd, Nat.reduceDiv, Nat.reduceBEq, Nat.reduceLeDiff, Int.reduceToNat, Int.reduceNe, Int.reduceEq, Int.reduceLT, Int.reduceLE, Int.reduceBEq, Int.reduceBNe, ne_eq, not_true_eq_false, not_false_eq_true, decide_true, decide_false, List.length_map, h0, h2, h4, h5, h26, hb, e1, e3]
        refine ⟨branch_l (by omega) ?_, ?_⟩
        · simp -implicitDefEqProofs (disch := omega) only [go_sem, ↓reduceIte, Nat.reduceEqDiff, Nat.reduceMul, Nat.reduceAdd, Nat.reduceDiv, Nat.reduceBEq, Nat.reduceLeDiff, Int.reduceToNat, Int.reduceNe, Int.reduceEq, Int.reduceLT, Int.reduceLE, Int.reduceBEq, Int.reduceBNe, ne_eq, not_true_eq_false, not_false_eq_true, decide_true, decide_false, List.length_map, h0, h2, h4, h5, h26, hb, e1, e3]
          exact .inl trivial
        · exact .inr trivial
      · rw [subsN, if_neg h0s] at h26
        have e4 : bitsI .and .i64 ((s : Int) - 1) (R : Int) = (((s - 1) &&& R : Nat) : Int) := by
          rw [show (s : Int) - 1 = ((s - 1 : Nat) : Int) from by omega]; exact and_nat (by omega) (by omega)
        have hle := @Nat.and_le_left (s - 1) R
        simp -implicitDefEqProofs (disch := omega) only [go_sem, ↓reduceIte, Nat.reduceEqDiff, Nat.reduceMul, Nat.reduceAdd, Nat.reduceDiv, Nat.reduceBEq, Nat.reduceLeDiff, Int.reduceToNat, Int.reduceNe, Int.reduceEq, Int.reduceLT, Int.reduceLE, Int.reduceBEq, Int.reduceBNe, ne_eq, not_true_eq_false, not_false_eq_true, decide_true, decide_false, List.length_map, h0, h2, h4, h5, h26, hb, e1, e3, e4]
        refine ⟨branch_r (by omega) ?_, ?_⟩
        · simp -implicitDefEqProofs (disch := omega) only [go_sem, ↓reduceIte, Nat.reduceEqDiff, Nat.reduceMul, Nat.reduceAdd, Nat.reduceDiv, Nat.reduceBEq, Nat.reduceLeDiff, Int.reduceToNat, Int.reduceNe, Int.reduceEq, Int.reduceLT, Int.reduceLE, Int.reduceBEq, Int.reduceBNe, ne_eq, not_true_eq_false, not_false_eq_true, decide_true, decide_false, List.length_map, h0, h2, h4, h5, h26, hb, e1, e3, e4]
          refine againQ_mk m (by omega) ⟨(s - 1) &&& R, by omega, by omega, ?_⟩
          simp -implicitDefEqProofs (disch := omega) only [go_sem, ↓reduceIte, Nat.reduceEqDiff, Nat.reduceMul, Nat.reduceAdd, Nat.reduceDiv, Nat.reduceBEq, Nat.reduceLeDiff, Int.reduceToNat, Int.reduceNe, Int.reduceEq, Int.reduceLT, Int.reduceLE, Int.reduceBEq, Int.reduceBNe, ne_eq, not_true_eq_false, not_false_eq_true, decide_true, decide_false, List.length_map, h0, h2, h4, h5, h26, hb, e1, e3, e4]
        · exact .inr trivial
end Go.Proofs.Ytjbgckjcbmmobaa

/- The contracts of chapter 39: groups with the sum 0. -/
set_option maxRecDepth 100000
set_option linter.unusedSimpArgs false
namespace Go.Proofs.Ytjbgckjcbmmobaa
open Go.Vai Go Go.Proofs

theorem und79 : Try.prog.underlying 79 = some (.map 3 25) := by kernel_rfl
theorem und3 : Try.prog.underlying 3 = some (.int .i64) := by kernel_rfl
abbrev LG (S : List Int) (kv : List (Int × AV)) : List (Nat × Blk) := [(113246256, ⟨67, 256, [.agg (S.map I)]⟩), (113246816, ⟨79, 0, kv.map entA⟩)]
abbrev LKG (b S : List Int) (n : Nat) (kv : List (Int × AV)) (all : Nat) : Prop :=
  LOK Try.prog 62 (inI [113246256, 113246816]) [.ptr 113246256 256 0 0, .mref 113246816, I all] (stO (LG S kv)) (SL (gI (gF b 256 all))) (stO (LG S (kvF b n kv all)))
theorem groups0 (b S : List Int) (n : Nat) (kv : List (Int × AV)) (hk : KvOK b kv) : LKG b S (n + 1) kv 0 := by
  have hn := namesL_kv hk
  unfold LKG
  rw [kvF, gF, if_pos rfl, if_pos rfl]
  refine lok_sl (e := 3) ?_
  refine lok_of [113246256, 113246816] Try.func62 rfl (by kernel_rfl) mo (Nat.le_of_ble_eq_true rfl) rfl (by kernel_rfl) (by kernel_rfl) ?_
  simp -implicitDefEqProofs (disch := omega) only [go_sem, ↓reduceIte, Nat.reduceEqDiff, Nat.reduceMul, Nat.reduceAdd, Nat.reduceDiv, Nat.reduceBEq, Nat.reduceLeDiff, Int.reduceToNat, Int.reduceNe, Int.reduceEq, Int.reduceLT, Int.reduceLE, Int.reduceBEq, Int.reduceBNe, ne_eq, not_true_eq_false, not_false_eq_true, decide_true, decide_false, List.length_map, Try.ntmps62, hn]
  refine branch_l rfl ?_
  simp -implicitDefEqProofs (disch := omega) only [go_sem, ↓reduceIte, Nat.reduceEqDiff, Nat.reduceMul, Nat.reduceAdd, Nat.reduceDiv, Nat.reduceBEq, Nat.reduceLeDiff, Int.reduceToNat, Int.reduceNe, Int.reduceEq, Int.reduceLT, Int.reduceLE, Int.reduceBEq, Int.reduceBNe, ne_eq, not_true_eq_false, not_false_eq_true, decide_true, decide_false, List.length_map, hn, Try.results62]
theorem groups1 (b S : List Int) (n : Nat) (kv : List (Int × AV)) (all : Nat) (hk : KvOK b kv) (h0 : all ≠ 0) (hm : (mgetA (all : Int) kv).isSome = true) : LKG b S (n + 1) kv all := by
  have hn := namesL_kv hk
  unfold LKG
  rw [kvF, if_neg h0, if_pos hm]
  refine lok_of [113246256, 113246816] Try.func62 rfl (by kernel_rfl) mo (Nat.le_of_ble_eq_true rfl) rfl (by kernel_rfl) (by kernel_rfl) ?_
  simp -implicitDefEqProofs (disch := omega) only [go_sem, ↓reduceIte, Nat.reduceEqDiff, Nat.reduceMul, Nat.reduceAdd, Nat.reduceDiv, Nat.reduceBEq, Nat.reduceLeDiff, Int.reduceToNat, Int.reduceNe, Int.reduceEq, Int.reduceLT, Int.reduceLE, Int.reduceBEq, Int.reduceBNe, ne_eq, not_true_eq_false, not_false_eq_true, decide_true, decide_false, List.length_map, Try.ntmps62, hn]
  refine branch_r (by omega) ?_
  simp -implicitDefEqProofs (disch := omega) only [go_sem, ↓reduceIte, Nat.reduceEqDiff, Nat.reduceMul, Nat.reduceAdd, Nat.reduceDiv, Nat.reduceBEq, Nat.reduceLeDiff, Int.reduceToNat, Int.reduceNe, Int.reduceEq, Int.reduceLT, Int.reduceLE, Int.reduceBEq, Int.reduceBNe, ne_eq, not_true_eq_false, not_false_eq_true, decide_true, decide_false, List.length_map, hn]
  refine lookup_mk (kt := 3) (et := 25) (id := 113246816) (e := 79) (l := kv) (n := all) ?_ ?_ ?_ und79 und3 tz_25 (fun v hv => ?_) (fun hv => ?_)
  · simp -implicitDefEqProofs (disch := omega) only [go_sem, ↓reduceIte, Nat.reduceEqDiff, Nat.reduceMul, Nat.reduceAdd, Nat.reduceDiv, Nat.reduceBEq, Nat.reduceLeDiff, Int.reduceToNat, Int.reduceNe, Int.reduceEq, Int.reduceLT, Int.reduceLE, Int.reduceBEq, Int.reduceBNe, ne_eq, not_true_eq_false, not_false_eq_true, decide_true, decide_false, List.length_map]
  · simp -implicitDefEqProofs (disch := omega) only [go_sem, ↓reduceIte, Nat.reduceEqDiff, Nat.reduceMul, Nat.reduceAdd, Nat.reduceDiv, Nat.reduceBEq, Nat.reduceLeDiff, Int.reduceToNat, Int.reduceNe, Int.reduceEq, Int.reduceLT, Int.reduceLE, Int.reduceBEq, Int.reduceBNe, ne_eq, not_true_eq_false, not_false_eq_true, decide_true, decide_false, List.length_map]
  · simp -implicitDefEqProofs (disch := omega) only [go_sem, ↓reduceIte, Nat.reduceEqDiff, Nat.reduceMul, Nat.reduceAdd, Nat.reduceDiv, Nat.reduceBEq, Nat.reduceLeDiff, Int.reduceToNat, Int.reduceNe, Int.reduceEq, Int.reduceLT, Int.reduceLE, Int.reduceBEq, Int.reduceBNe, ne_eq, not_true_eq_false, not_false_eq_true, decide_true, decide_false, List.length_map, hn]
  · rw [kv_get hk hv]
    simp -implicitDefEqProofs (disch := omega) only [go_sem, ↓reduceIte, Nat.reduceEqDiff, Nat.reduceMul, Nat.reduceAdd, Nat.reduceDiv, Nat.reduceBEq, Nat.reduceLeDiff, Int.reduceToNat, Int.reduceNe, Int.reduceEq, Int.reduceLT, Int.reduceLE, Int.reduceBEq, Int.reduceBNe, ne_eq, not_true_eq_false, not_false_eq_true, decide_true, decide_false, List.length_map, hn, Try.results62]
  · rw [hv] at hm; cases hm
set_option maxHeartbeats 4000000 in
theorem groups_lok (b S : List Int) (hS : S.length = 256) (hat : ∀ s, s < 256 → gd S s = sumM b s) : ∀ (n all : Nat) (kv : List (Int × AV)), all < n → all < 256 → KvOK b kv → LKG b S n kv all := by
  intro n
  induction n with
  | zero => intro all kv h; omega
  | succ n ih =>
    intro all kv hn h8 hk
    by_cases h0 : all = 0
    · subst h0; exact groups0 b S n kv hk
    cases hm : mgetA (all : Int) kv with
    | some v => exact groups1 b S n kv all hk h0 (by rw [hm]; rfl)
    | none =>
      have hnm := namesL_kv hk
      obtain ⟨hl1, hl2, hl3⟩ := lowF_spec h8 h0
      have hG : gF b 256 all = (setsF all (lowF all)).foldl (bestF b (gF b 256) all) [] := by
        rw [gF, if_neg h0]
        refine foldl_congr _ _ fun best s hs => ?_
        have hlt := lessN_lt hl1 ((setsF_mem hl1 h8 s).1 hs).2
        unfold bestF
        rw [gF_fuel b 255 256 (lessN all s) (by omega) (by omega) (by omega)]
      have hK : kvF b (n + 1) kv all = mputA ((setsF all (lowF all)).foldl (fun kv s => if sumM b s = 0 then kvF b n kv (lessN all s) else kv) kv) all (SL (gI (gF b 256 all))) := by
        rw [kvF, if_neg h0, hm]; rfl
      unfold LKG
      rw [hK, hG]
      refine lok_of [113246256, 113246816] Try.func62 rfl (by kernel_rfl) mo (Nat.le_of_ble_eq_true rfl) rfl (by kernel_rfl) (by kernel_rfl) ?_
      simp -implicitDefEqProofs (disch := omega) only [go_sem, ↓reduceIte, Nat.reduceEqDiff, Nat.reduceMul, Nat.reduceAdd, Nat.reduceDiv, Nat.reduceBEq, Nat.reduceLeDiff, Int.reduceToNat, Int.reduceNe, Int.reduceEq, Int.reduceLT, Int.reduceLE, Int.reduceBEq, Int.reduceBNe, ne_eq, not_true_eq_false, not_false_eq_true, decide_true, decide_false, List.length_map, Try.ntmps62, hnm]
      refine branch_r (by omega) ?_
      simp -implicitDefEqProofs (disch := omega) only [go_sem, ↓reduceIte, Nat.reduceEqDiff, Nat.reduceMul, Nat.reduceAdd, Nat.reduceDiv, Nat.reduceBEq, Nat.reduceLeDiff, Int.reduceToNat, Int.reduceNe, Int.reduceEq, Int.reduceLT, Int.reduceLE, Int.reduceBEq, Int.reduceBNe, ne_eq, not_true_eq_false, not_false_eq_true, decide_true, decide_false, List.length_map, hnm]
      refine lookup_mk (kt := 3) (et := 25) (id := 113246816) (e := 79) (l := kv) (n := all) ?_ ?_ ?_ und79 und3 tz_25 (fun v hv => ?_) (fun hv => ?_)
      · simp -implicitDefEqProofs (disch := omega) only [go_sem, ↓reduceIte, Nat.reduceEqDiff, Nat.reduceMul, Nat.reduceAdd, Nat.reduceDiv, Nat.reduceBEq, Nat.reduceLeDiff, Int.reduceToNat, Int.reduceNe, Int.reduceEq, Int.reduceLT, Int.reduceLE, Int.reduceBEq, Int.reduceBNe, ne_eq, not_true_eq_false, not_false_eq_true, decide_true, decide_false, List.length_map]
      · simp -implicitDefEqProofs (disch := omega) only [go_sem, ↓reduceIte, Nat.reduceEqDiff, Nat.reduceMul, Nat.reduceAdd, Nat.reduceDiv, Nat.reduceBEq, Nat.reduceLeDiff, Int.reduceToNat, Int.reduceNe, Int.reduceEq, Int.reduceLT, Int.reduceLE, Int.reduceBEq, Int.reduceBNe, ne_eq, not_true_eq_false, not_false_eq_true, decide_true, decide_false, List.length_map]
      · simp -implicitDefEqProofs (disch := omega) only [go_sem, ↓reduceIte, Nat.reduceEqDiff, Nat.reduceMul, Nat.reduceAdd, Nat.reduceDiv, Nat.reduceBEq, Nat.reduceLeDiff, Int.reduceToNat, Int.reduceNe, Int.reduceEq, Int.reduceLT, Int.reduceLE, Int.reduceBEq, Int.reduceBNe, ne_eq, not_true_eq_false, not_false_eq_true, decide_true, decide_false, List.length_map, hnm]
      · rw [hm] at hv; cases hv
      · simp -implicitDefEqProofs (disch := omega) only [go_sem, ↓reduceIte, Nat.reduceEqDiff, Nat.reduceMul, Nat.reduceAdd, Nat.reduceDiv, Nat.reduceBEq, Nat.reduceLeDiff, Int.reduceToNat, Int.reduceNe, Int.reduceEq, Int.reduceLT, Int.reduceLE, Int.reduceBEq, Int.reduceBNe, ne_eq, not_true_eq_false, not_false_eq_true, decide_true, decide_false, List.length_map, hnm]
        refine loopC_mk (fun k E σ => ∃ c : Nat, c + k = 8 ∧ lowF all = lowN all c k ∧ E 3 = .ptr 132120624 1 0 0 ∧ E 4 = .ptr 132120640 1 0 0 ∧ E 5 = .ptr 132120656 1 0 0 ∧ E 9 = I c ∧
          σ 132120624 = some ⟨78, 1, [.ptr 113246256 256 0 0]⟩ ∧ σ 132120640 = some ⟨79, 1, [.mref 113246816]⟩ ∧ σ 132120656 = some ⟨3, 1, [I all]⟩ ∧ σ 113246256 = some ⟨67, 256, [.agg (S.map I)]⟩ ∧ σ 113246816 = some ⟨79, 0, kv.map entA⟩) 8 ⟨0, rfl, rfl, ?_⟩ ?_
        · simp -implicitDefEqProofs (disch := omega) only [go_sem, ↓reduceIte, Nat.reduceEqDiff, Nat.reduceMul, Nat.reduceAdd, Nat.reduceDiv, Nat.reduceBEq, Nat.reduceLeDiff, Int.reduceToNat, Int.reduceNe, Int.reduceEq, Int.reduceLT, Int.reduceLE, Int.reduceBEq, Int.reduceBNe, ne_eq, not_true_eq_false, not_false_eq_true, decide_true, decide_false, List.length_map, hnm]
          rfl
        · rintro k E σ ⟨c, hc, hlow, h3, h4, h5, h9, m3, m4, m5, mS, mM⟩
          have hb0 := bit_test0 (s := all) (c := c) (by omega) (by omega)
          simp -implicitDefEqProofs (disch := omega) only [go_sem, ↓reduceIte, Nat.reduceEqDiff, Nat.reduceMul, Nat.reduceAdd, Nat.reduceDiv, Nat.reduceBEq, Nat.reduceLeDiff, Int.reduceToNat, Int.reduceNe, Int.reduceEq, Int.reduceLT, Int.reduceLE, Int.reduceBEq, Int.reduceBNe, ne_eq, not_true_eq_false, not_false_eq_true, decide_true, decide_false, List.length_map, h3, h4, h5, h9, m3, m4, m5, mS, mM, hnm]
          refine branch_mk (fun hb => ?_) (fun hb => ?_)
          · simp -implicitDefEqProofs (disch := omega) only [go_sem, ↓reduceIte, Nat.reduceEqDiff, Nat.reduceMul, Nat.reduceAdd, Nat.reduceDiv, Nat.reduceBEq, Nat.reduceLeDiff, Int.reduceToNat, Int.reduceNe, Int.reduceEq, Int.reduceLT, Int.reduceLE, Int.reduceBEq, Int.reduceBNe, ne_eq, not_true_eq_false, not_false_eq_true, decide_true, decide_false, List.length_map, h3, h4, h5, h9, m3, m4, m5, mS, mM, hnm]
            have hb := hb0.1 hb
            obtain ⟨k, rfl⟩ : ∃ m, k = m + 1 := ⟨k - 1, by
              have : k ≠ 0 := fun e => by subst e; rw [lowN] at hlow; omega
              omega⟩
            rw [lowN, hb] at hlow
            refine againQ_mk k (by omega) ⟨c + 1, by omega, by simpa using hlow, ?_⟩
            simp -implicitDefEqProofs (disch := omega) only [go_sem, ↓reduceIte, Nat.reduceEqDiff, Nat.reduceMul, Nat.reduceAdd, Nat.reduceDiv, Nat.reduceBEq, Nat.reduceLeDiff, Int.reduceToNat, Int.reduceNe, Int.reduceEq, Int.reduceLT, Int.reduceLE, Int.reduceBEq, Int.reduceBNe, ne_eq, not_true_eq_false, not_false_eq_true, decide_true, decide_false, List.length_map, h3, h4, h5, h9, m3, m4, m5, mS, mM, hnm]
            simp
          · have hb : all.testBit c = true := by
              cases h : all.testBit c with
              | true => rfl
              | false => exact absurd (hb0.2 h) hb
            have hcl : lowF all = c := by
              cases k with
              | zero => rw [lowN] at hlow; omega
              | succ k => rw [lowN, if_pos hb] at hlow; exact hlow
            rw [hcl] at hl1 hl2 hl3 hG hK
            rw [hcl]
            have hmem := setsF_mem hl1 h8
            simp -implicitDefEqProofs (disch := omega) only [go_sem, ↓reduceIte, Nat.reduceEqDiff, Nat.reduceMul, Nat.reduceAdd, Nat.reduceDiv, Nat.reduceBEq, Nat.reduceLeDiff, Int.reduceToNat, Int.reduceNe, Int.reduceEq, Int.reduceLT, Int.reduceLE, Int.reduceBEq, Int.reduceBNe, ne_eq, not_true_eq_false, not_false_eq_true, decide_true, decide_false, List.length_map, h3, h4, h5, h9, m3, m4, m5, mS, mM, hnm]
            refine callC_at (sets_ev all c) ?_
            simp -implicitDefEqProofs (disch := omega) only [go_sem, ↓reduceIte, Nat.reduceEqDiff, Nat.reduceMul, Nat.reduceAdd, Nat.reduceDiv, Nat.reduceBEq, Nat.reduceLeDiff, Int.reduceToNat, Int.reduceNe, Int.reduceEq, Int.reduceLT, Int.reduceLE, Int.reduceBEq, Int.reduceBNe, ne_eq, not_true_eq_false, not_false_eq_true, decide_true, decide_false, List.length_map, h3, h4, h5, h9, m3, m4, m5, mS, mM, hnm]
            refine awpC_range ?_
            refine range_mkL [132121088, 132121089] [113246256, 113246816, 132120624, 132120640, 132120656, 132120736] 8257636 ((setsF all c).map YS)
              (fun xs σ => ∃ (d r : List Nat) (x : Nat) (kv' : List (Int × AV)), setsF all c = d ++ r ∧ xs = r.map YS ∧ (x = 132120737 ∨ x = 132123024) ∧ KvOK b kv' ∧ kv' = d.foldl (fun kv s => if sumM b s = 0 then kvF b n kv (lessN all s) else kv) kv ∧
                σ 132120624 = some ⟨78, 1, [.ptr 113246256 256 0 0]⟩ ∧ σ 132120640 = some ⟨79, 1, [.mref 113246816]⟩ ∧ σ 132120656 = some ⟨3, 1, [I all]⟩ ∧ σ 113246256 = some ⟨67, 256, [.agg (S.map I)]⟩ ∧ σ 113246816 = some ⟨79, 0, kv'.map entA⟩ ∧
                σ 132120736 = some ⟨25, 1, [.own x 1 0 (d.foldl (bestF b (gF b 256) all) []).length]⟩ ∧ σ x = some ⟨3, 1, (gI (d.foldl (bestF b (gF b 256) all) [])).map I⟩)
              (g := 67) (caps := [.ptr 132121088 1 0 0, .ptr 132121089 1 0 0]) ?_ ?_ ?_ ?_ ?_ ?_ ?_ ?_ ?_
            · simp -implicitDefEqProofs (disch := omega) only [go_sem, ↓reduceIte, Nat.reduceEqDiff, Nat.reduceMul, Nat.reduceAdd, Nat.reduceDiv, Nat.reduceBEq, Nat.reduceLeDiff, Int.reduceToNat, Int.reduceNe, Int.reduceEq, Int.reduceLT, Int.reduceLE, Int.reduceBEq, Int.reduceBNe, ne_eq, not_true_eq_false, not_false_eq_true, decide_true, decide_false, List.length_map]
            · refine sets_sok all c _ _ _ h8 hl2 ?_ ?_ (by decide) (by decide) <;> simp -implicitDefEqProofs (disch := omega) only [go_sem, ↓reduceIte, Nat.reduceEqDiff, Nat.reduceMul, Nat.reduceAdd, Nat.reduceDiv, Nat.reduceBEq, Nat.reduceLeDiff, Int.reduceToNat, Int.reduceNe, Int.reduceEq, Int.reduceLT, Int.reduceLE, Int.reduceBEq, Int.reduceBNe, ne_eq, not_true_eq_false, not_false_eq_true, decide_true, decide_false, List.length_map]
            · intro x hx
              obtain ⟨y, _, rfl⟩ := List.mem_map.1 hx
              rfl
            · simp -implicitDefEqProofs (disch := omega) only [go_sem, ↓reduceIte, Nat.reduceEqDiff, Nat.reduceMul, Nat.reduceAdd, Nat.reduceDiv, Nat.reduceBEq, Nat.reduceLeDiff, Int.reduceToNat, Int.reduceNe, Int.reduceEq, Int.reduceLT, Int.reduceLE, Int.reduceBEq, Int.reduceBNe, ne_eq, not_true_eq_false, not_false_eq_true, decide_true, decide_false, List.length_map]
            · simp -implicitDefEqProofs (disch := omega) only [go_sem, ↓reduceIte, Nat.reduceEqDiff, Nat.reduceMul, Nat.reduceAdd, Nat.reduceDiv, Nat.reduceBEq, Nat.reduceLeDiff, Int.reduceToNat, Int.reduceNe, Int.reduceEq, Int.reduceLT, Int.reduceLE, Int.reduceBEq, Int.reduceBNe, ne_eq, not_true_eq_false, not_false_eq_true, decide_true, decide_false, List.length_map]
            · refine ⟨[], _, 132120737, kv, rfl, rfl, .inl rfl, hk, rfl, ?_⟩
              simp -implicitDefEqProofs (disch := omega) only [go_sem, ↓reduceIte, Nat.reduceEqDiff, Nat.reduceMul, Nat.reduceAdd, Nat.reduceDiv, Nat.reduceBEq, Nat.reduceLeDiff, Int.reduceToNat, Int.reduceNe, Int.reduceEq, Int.reduceLT, Int.reduceLE, Int.reduceBEq, Int.reduceBNe, ne_eq, not_true_eq_false, not_false_eq_true, decide_true, decide_false, List.length_map, h3, h4, h5, h9, m3, m4, m5, mS, mM, hnm]
              exact ⟨rfl, rfl⟩
            · rintro E0 hE0 y rest σ' ⟨d, r, x, kv', hst, hxs, hx, hk', hkv, n3, n4, n5, nS, nM, n10, nx⟩
              have e3 : E0 3 = .ptr 132120624 1 0 0 := by rw [hE0]; simp -implicitDefEqProofs (disch := omega) only [go_sem, ↓reduceIte, Nat.reduceEqDiff, Nat.reduceMul, Nat.reduceAdd, Nat.reduceDiv, Nat.reduceBEq, Nat.reduceLeDiff, Int.reduceToNat, Int.reduceNe, Int.reduceEq, Int.reduceLT, Int.reduceLE, Int.reduceBEq, Int.reduceBNe, ne_eq, not_true_eq_false, not_false_eq_true, decide_true, decide_false, List.length_map, h3]
              have e4 : E0 4 = .ptr 132120640 1 0 0 := by rw [hE0]; simp -implicitDefEqProofs (disch := omega) only [go_sem, ↓reduceIte, Nat.reduceEqDiff, Nat.reduceMul, Nat.reduceAdd, Nat.reduceDiv, Nat.reduceBEq, Nat.reduceLeDiff, Int.reduceToNat, Int.reduceNe, Int.reduceEq, Int.reduceLT, Int.reduceLE, Int.reduceBEq, Int.reduceBNe, ne_eq, not_true_eq_false, not_false_eq_true, decide_true, decide_false, List.length_map, h4]
              have e5 : E0 5 = .ptr 132120656 1 0 0 := by rw [hE0]; simp -implicitDefEqProofs (disch := omega) only [go_sem, ↓reduceIte, Nat.reduceEqDiff, Nat.reduceMul, Nat.reduceAdd, Nat.reduceDiv, Nat.reduceBEq, Nat.reduceLeDiff, Int.reduceToNat, Int.reduceNe, Int.reduceEq, Int.reduceLT, Int.reduceLE, Int.reduceBEq, Int.reduceBNe, ne_eq, not_true_eq_false, not_false_eq_true, decide_true, decide_false, List.length_map, h5]
              have e10 : E0 10 = .ptr 132120736 1 0 0 := by rw [hE0]; simp -implicitDefEqProofs (disch := omega) only [go_sem, ↓reduceIte, Nat.reduceEqDiff, Nat.reduceMul, Nat.reduceAdd, Nat.reduceDiv, Nat.reduceBEq, Nat.reduceLeDiff, Int.reduceToNat, Int.reduceNe, Int.reduceEq, Int.reduceLT, Int.reduceLE, Int.reduceBEq, Int.reduceBNe, ne_eq, not_true_eq_false, not_false_eq_true, decide_true, decide_false, List.length_map]
              clear hE0 h3 h4 h5 h9 m3 m4 m5 mS mM hnm
              obtain ⟨s, r', rfl, rfl, rfl⟩ : ∃ s r', r = s :: r' ∧ y = YS s ∧ rest = r'.map YS := by
                cases r with
                | nil => cases hxs
                | cons s r' => simp only [List.map_cons, List.cons.injEq] at hxs; exact ⟨s, r', rfl, hxs.1, hxs.2⟩
              have hin := (hmem s).1 (by rw [hst]; simp)
              have hs8 : s < 256 := Nat.lt_of_le_of_lt hin.1.le h8
              have hlt := lessN_lt hl1 hin.2
              have hat' := hat s hs8
              have hnm := namesL_kv hk'
              have hml : (d.foldl (bestF b (gF b 256) all) []).length ≤ 257 := by
                have : ∀ (l : List Nat) (best : List Nat), best.length ≤ 257 → (l.foldl (bestF b (gF b 256) all) best).length ≤ 257 := fun l => by
                  induction l with
                  | nil => intro best h; exact h
                  | cons s l ih =>
                    intro best h
                    rw [List.foldl_cons]
                    refine ih _ ?_
                    have := gF_length b 256 (lessN all s)
                    unfold bestF
                    split
                    · split
                      · rw [List.length_cons]; omega
                      · exact h
                    · exact h
                exact this d [] (by simp)
              have hbest : (d ++ [s]).foldl (bestF b (gF b 256) all) [] = bestF b (gF b 256) all (d.foldl (bestF b (gF b 256) all) []) s := by rw [List.foldl_append]; rfl
              have hkv2 : (d ++ [s]).foldl (fun kv s => if sumM b s = 0 then kvF b n kv (lessN all s) else kv) kv = if sumM b s = 0 then kvF b n kv' (lessN all s) else kv' := by rw [List.foldl_append, ← hkv]; rfl
              generalize d.foldl (bestF b (gF b 256) all) [] = m at *
              simp -implicitDefEqProofs (disch := omega) only [go_sem, ↓reduceIte, Nat.reduceEqDiff, Nat.reduceMul, Nat.reduceAdd, Nat.reduceDiv, Nat.reduceBEq, Nat.reduceLeDiff, Int.reduceToNat, Int.reduceNe, Int.reduceEq, Int.reduceLT, Int.reduceLE, Int.reduceBEq, Int.reduceBNe, ne_eq, not_true_eq_false, not_false_eq_true, decide_true, decide_false, List.length_map, e3, e4, e5, e10, n3, n4, n5, nS, nM, n10, hS, hat']
              refine branch_mk (fun hz => ?_) (fun hz => ?_)
              · simp -implicitDefEqProofs (disch := omega) only [go_sem, ↓reduceIte, Nat.reduceEqDiff, Nat.reduceMul, Nat.reduceAdd, Nat.reduceDiv, Nat.reduceBEq, Nat.reduceLeDiff, Int.reduceToNat, Int.reduceNe, Int.reduceEq, Int.reduceLT, Int.reduceLE, Int.reduceBEq, Int.reduceBNe, ne_eq, not_true_eq_false, not_false_eq_true, decide_true, decide_false, List.length_map, e3, e4, e5, e10, n3, n4, n5, nS, nM, n10, hS, hat']
                rw [if_neg hz] at hkv2
                rw [bestF, if_neg hz] at hbest
                refine ⟨inL [], fun _ _ => rfl, d ++ [s], r', x, kv', by rw [hst]; simp, rfl, hx, hk', hkv2.symm, ?_⟩
                simp -implicitDefEqProofs (disch := omega) only [go_sem, ↓reduceIte, Nat.reduceEqDiff, Nat.reduceMul, Nat.reduceAdd, Nat.reduceDiv, Nat.reduceBEq, Nat.reduceLeDiff, Int.reduceToNat, Int.reduceNe, Int.reduceEq, Int.reduceLT, Int.reduceLE, Int.reduceBEq, Int.reduceBNe, ne_eq, not_true_eq_false, not_false_eq_true, decide_true, decide_false, List.length_map, e3, e4, e5, e10, n3, n4, n5, nS, nM, n10, nx, hS, hat', hnm, hbest]
              · have hz : sumM b s = 0 := by omega
                rw [if_pos hz] at hkv2
                have e6 : bitsI .andNot .i64 (all : Int) (s : Int) = ((lessN all s : Nat) : Int) := andNot_nat (by omega) (by omega)
                have hL : LOK Try.prog 62 (inI [113246256, 113246816]) ([.ptr 113246256 256 0 0, .mref 113246816, I (lessN all s : Nat)] ++ []) (stO (LG S kv')) (SL (gI (gF b 256 (lessN all s)))) (stO (LG S (kvF b n kv' (lessN all s)))) := ih (lessN all s) kv' (by omega) (by omega) hk'
                have hk2 := kvF_ok n kv' (lessN all s) (by omega) hk'
                have hnm2 := namesL_kv hk2
                have hgl := gF_length b 256 (lessN all s)
                generalize kvF b n kv' (lessN all s) = kv2 at *
                rw [bestF, if_pos hz] at hbest
                generalize gF b 256 (lessN all s) = g at *
                simp -implicitDefEqProofs (disch := omega) only [go_sem, ↓reduceIte, Nat.reduceEqDiff, Nat.reduceMul, Nat.reduceAdd, Nat.reduceDiv, Nat.reduceBEq, Nat.reduceLeDiff, Int.reduceToNat, Int.reduceNe, Int.reduceEq, Int.reduceLT, Int.reduceLE, Int.reduceBEq, Int.reduceBNe, ne_eq, not_true_eq_false, not_false_eq_true, decide_true, decide_false, List.length_map, e3, e4, e5, e10, n3, n4, n5, nS, nM, n10, hS, hat', e6, hnm]
                refine callC_sem rfl ?_
                have hxx := hx
                rcases hx with rfl | rfl
                all_goals
                  refine lent_mk [113246256, 113246816] hL ?_ ?_ ?_ ?_ ?_ ?_ ?_ (hsp := fun id h _ => List.contains_iff_mem.2 h)
                  · simp -implicitDefEqProofs (disch := omega) only [go_sem, ↓reduceIte, Nat.reduceEqDiff, Nat.reduceMul, Nat.reduceAdd, Nat.reduceDiv, Nat.reduceBEq, Nat.reduceLeDiff, Int.reduceToNat, Int.reduceNe, Int.reduceEq, Int.reduceLT, Int.reduceLE, Int.reduceBEq, Int.reduceBNe, ne_eq, not_true_eq_false, not_false_eq_true, decide_true, decide_false, List.length_map]
                  · simp -implicitDefEqProofs (disch := omega) only [go_sem, ↓reduceIte, Nat.reduceEqDiff, Nat.reduceMul, Nat.reduceAdd, Nat.reduceDiv, Nat.reduceBEq, Nat.reduceLeDiff, Int.reduceToNat, Int.reduceNe, Int.reduceEq, Int.reduceLT, Int.reduceLE, Int.reduceBEq, Int.reduceBNe, ne_eq, not_true_eq_false, not_false_eq_true, decide_true, decide_false, List.length_map, e6]
                  · simp -implicitDefEqProofs (disch := omega) only [go_sem, ↓reduceIte, Nat.reduceEqDiff, Nat.reduceMul, Nat.reduceAdd, Nat.reduceDiv, Nat.reduceBEq, Nat.reduceLeDiff, Int.reduceToNat, Int.reduceNe, Int.reduceEq, Int.reduceLT, Int.reduceLE, Int.reduceBEq, Int.reduceBNe, ne_eq, not_true_eq_false, not_false_eq_true, decide_true, decide_false, List.length_map, nS, nM, hnm]
                  · simp -implicitDefEqProofs (disch := omega) only [go_sem, ↓reduceIte, Nat.reduceEqDiff, Nat.reduceMul, Nat.reduceAdd, Nat.reduceDiv, Nat.reduceBEq, Nat.reduceLeDiff, Int.reduceToNat, Int.reduceNe, Int.reduceEq, Int.reduceLT, Int.reduceLE, Int.reduceBEq, Int.reduceBNe, ne_eq, not_true_eq_false, not_false_eq_true, decide_true, decide_false, List.length_map]
                  · simp -implicitDefEqProofs (disch := omega) only [go_sem, ↓reduceIte, Nat.reduceEqDiff, Nat.reduceMul, Nat.reduceAdd, Nat.reduceDiv, Nat.reduceBEq, Nat.reduceLeDiff, Int.reduceToNat, Int.reduceNe, Int.reduceEq, Int.reduceLT, Int.reduceLE, Int.reduceBEq, Int.reduceBNe, ne_eq, not_true_eq_false, not_false_eq_true, decide_true, decide_false, List.length_map, hnm]
                  · simp -implicitDefEqProofs (disch := omega) only [go_sem, ↓reduceIte, Nat.reduceEqDiff, Nat.reduceMul, Nat.reduceAdd, Nat.reduceDiv, Nat.reduceBEq, Nat.reduceLeDiff, Int.reduceToNat, Int.reduceNe, Int.reduceEq, Int.reduceLT, Int.reduceLE, Int.reduceBEq, Int.reduceBNe, ne_eq, not_true_eq_false, not_false_eq_true, decide_true, decide_false, List.length_map, hnm2]
                  · simp -implicitDefEqProofs (disch := omega) only [go_sem, ↓reduceIte, Nat.reduceEqDiff, Nat.reduceMul, Nat.reduceAdd, Nat.reduceDiv, Nat.reduceBEq, Nat.reduceLeDiff, Int.reduceToNat, Int.reduceNe, Int.reduceEq, Int.reduceLT, Int.reduceLE, Int.reduceBEq, Int.reduceBNe, ne_eq, not_true_eq_false, not_false_eq_true, decide_true, decide_false, List.length_map, e3, e4, e5, e10, n3, n4, n5, nS, nM, n10, nx, hnm2]
                    refine branch_mk (fun hlg => ?_) (fun hlg => ?_)
                    · rw [if_pos (by omega)] at hbest
                      simp (maxSteps := 4000000) -implicitDefEqProofs (disch := omega) only [go_sem, ↓reduceIte, Nat.reduceEqDiff, Nat.reduceMul, Nat.reduceAdd, Nat.reduceDiv, Nat.reduceBEq, Nat.reduceLeDiff, Int.reduceToNat, Int.reduceNe, Int.reduceEq, Int.reduceLT, Int.reduceLE, Int.reduceBEq, Int.reduceBNe, ne_eq, not_true_eq_false, not_false_eq_true, decide_true, decide_false, List.length_map, e3, e4, e5, e10, n3, n4, n5, nS, nM, n10, nx, hnm2]
                      refine ⟨inL [], fun _ _ => rfl, d ++ [s], r', 132123024, kv2, by rw [hst]; simp, rfl, .inr rfl, hk2, hkv2.symm, ?_⟩
                      simp (maxSteps := 4000000) -implicitDefEqProofs (disch := omega) only [go_sem, ↓reduceIte, Nat.reduceEqDiff, Nat.reduceMul, Nat.reduceAdd, Nat.reduceDiv, Nat.reduceBEq, Nat.reduceLeDiff, Int.reduceToNat, Int.reduceNe, Int.reduceEq, Int.reduceLT, Int.reduceLE, Int.reduceBEq, Int.reduceBNe, ne_eq, not_true_eq_false, not_false_eq_true, decide_true, decide_false, List.length_map, e3, e4, e5, e10, n3, n4, n5, nS, nM, n10, nx, hnm2, hbest]
                      rw [Nat.add_comm]
                    · rw [if_neg (by omega)] at hbest
                      simp -implicitDefEqProofs (disch := omega) only [go_sem, ↓reduceIte, Nat.reduceEqDiff, Nat.reduceMul, Nat.reduceAdd, Nat.reduceDiv, Nat.reduceBEq, Nat.reduceLeDiff, Int.reduceToNat, Int.reduceNe, Int.reduceEq, Int.reduceLT, Int.reduceLE, Int.reduceBEq, Int.reduceBNe, ne_eq, not_true_eq_false, not_false_eq_true, decide_true, decide_false, List.length_map, e3, e4, e5, e10, n3, n4, n5, nS, nM, n10, nx, hnm2]
                      refine ⟨inL [], fun _ _ => rfl, d ++ [s], r', _, kv2, by rw [hst]; simp, rfl, hxx, hk2, hkv2.symm, ?_⟩
                      simp -implicitDefEqProofs (disch := omega) only [go_sem, ↓reduceIte, Nat.reduceEqDiff, Nat.reduceMul, Nat.reduceAdd, Nat.reduceDiv, Nat.reduceBEq, Nat.reduceLeDiff, Int.reduceToNat, Int.reduceNe, Int.reduceEq, Int.reduceLT, Int.reduceLE, Int.reduceBEq, Int.reduceBNe, ne_eq, not_true_eq_false, not_false_eq_true, decide_true, decide_false, List.length_map, e3, e4, e5, e10, n3, n4, n5, nS, nM, n10, nx, hnm2, hbest]
            · rintro E0 hE0 σ' ⟨d, r, x, kv', hst, hxs, hx, hk', hkv, n3, n4, n5, nS, nM, n10, nx⟩
              have e4 : E0 4 = .ptr 132120640 1 0 0 := by rw [hE0]; simp -implicitDefEqProofs (disch := omega) only [go_sem, ↓reduceIte, Nat.reduceEqDiff, Nat.reduceMul, Nat.reduceAdd, Nat.reduceDiv, Nat.reduceBEq, Nat.reduceLeDiff, Int.reduceToNat, Int.reduceNe, Int.reduceEq, Int.reduceLT, Int.reduceLE, Int.reduceBEq, Int.reduceBNe, ne_eq, not_true_eq_false, not_false_eq_true, decide_true, decide_false, List.length_map, h4]
              have e5 : E0 5 = .ptr 132120656 1 0 0 := by rw [hE0]; simp -implicitDefEqProofs (disch := omega) only [go_sem, ↓reduceIte, Nat.reduceEqDiff, Nat.reduceMul, Nat.reduceAdd, Nat.reduceDiv, Nat.reduceBEq, Nat.reduceLeDiff, Int.reduceToNat, Int.reduceNe, Int.reduceEq, Int.reduceLT, Int.reduceLE, Int.reduceBEq, Int.reduceBNe, ne_eq, not_true_eq_false, not_false_eq_true, decide_true, decide_false, List.length_map, h5]
              have e10 : E0 10 = .ptr 132120736 1 0 0 := by rw [hE0]; simp -implicitDefEqProofs (disch := omega) only [go_sem, ↓reduceIte, Nat.reduceEqDiff, Nat.reduceMul, Nat.reduceAdd, Nat.reduceDiv, Nat.reduceBEq, Nat.reduceLeDiff, Int.reduceToNat, Int.reduceNe, Int.reduceEq, Int.reduceLT, Int.reduceLE, Int.reduceBEq, Int.reduceBNe, ne_eq, not_true_eq_false, not_false_eq_true, decide_true, decide_false, List.length_map]
              clear hE0 h3 h4 h5 h9 m3 m4 m5 mS mM hnm
              have hr : r = [] := by simpa using hxs.symm
              subst hr
              rw [List.append_nil] at hst
              rw [← hst] at hkv n10 nx
              rw [← hG] at n10 nx
              rw [← hkv]
              have hnm := namesL_kv hk'
              have hnm2 := namesL_kv (kv_put hk' h8)
              rw [← hG]
              generalize gF b 256 all = g at *
              simp -implicitDefEqProofs (disch := omega) only [go_sem, ↓reduceIte, Nat.reduceEqDiff, Nat.reduceMul, Nat.reduceAdd, Nat.reduceDiv, Nat.reduceBEq, Nat.reduceLeDiff, Int.reduceToNat, Int.reduceNe, Int.reduceEq, Int.reduceLT, Int.reduceLE, Int.reduceBEq, Int.reduceBNe, ne_eq, not_true_eq_false, not_false_eq_true, decide_true, decide_false, List.length_map, e4, e5, e10, n4, n5, nS, nM, n10, nx]
              rcases hx with rfl | rfl
              all_goals
                refine freeze_op [132120737, 132123024] ?_
                simp -implicitDefEqProofs (disch := omega) only [go_sem, ↓reduceIte, Nat.reduceEqDiff, Nat.reduceMul, Nat.reduceAdd, Nat.reduceDiv, Nat.reduceBEq, Nat.reduceLeDiff, Int.reduceToNat, Int.reduceNe, Int.reduceEq, Int.reduceLT, Int.reduceLE, Int.reduceBEq, Int.reduceBNe, ne_eq, not_true_eq_false, not_false_eq_true, decide_true, decide_false, List.length_map, e4, e5, e10, n4, n5, nS, nM, n10, nx, hnm]
                refine mapUpdate_mk (kt := 3) (et := 25) (id := 113246816) (e := 79) (l := kv') (n := all) ?_ ?_ ?_ und79 und3 ?_
                · simp -implicitDefEqProofs (disch := omega) only [go_sem, ↓reduceIte, Nat.reduceEqDiff, Nat.reduceMul, Nat.reduceAdd, Nat.reduceDiv, Nat.reduceBEq, Nat.reduceLeDiff, Int.reduceToNat, Int.reduceNe, Int.reduceEq, Int.reduceLT, Int.reduceLE, Int.reduceBEq, Int.reduceBNe, ne_eq, not_true_eq_false, not_false_eq_true, decide_true, decide_false, List.length_map, e4, e5, e10, n4, n5, nS, nM, n10, nx, hnm]
                · simp -implicitDefEqProofs (disch := omega) only [go_sem, ↓reduceIte, Nat.reduceEqDiff, Nat.reduceMul, Nat.reduceAdd, Nat.reduceDiv, Nat.reduceBEq, Nat.reduceLeDiff, Int.reduceToNat, Int.reduceNe, Int.reduceEq, Int.reduceLT, Int.reduceLE, Int.reduceBEq, Int.reduceBNe, ne_eq, not_true_eq_false, not_false_eq_true, decide_true, decide_false, List.length_map, e4, e5, e10, n4, n5, nS, nM, n10, nx, hnm]
                · simp -implicitDefEqProofs (disch := omega) only [go_sem, ↓reduceIte, Nat.reduceEqDiff, Nat.reduceMul, Nat.reduceAdd, Nat.reduceDiv, Nat.reduceBEq, Nat.reduceLeDiff, Int.reduceToNat, Int.reduceNe, Int.reduceEq, Int.reduceLT, Int.reduceLE, Int.reduceBEq, Int.reduceBNe, ne_eq, not_true_eq_false, not_false_eq_true, decide_true, decide_false, List.length_map, e4, e5, e10, n4, n5, nS, nM, n10, nx, hnm]
                · simp -implicitDefEqProofs (disch := omega) only [go_sem, ↓reduceIte, Nat.reduceEqDiff, Nat.reduceMul, Nat.reduceAdd, Nat.reduceDiv, Nat.reduceBEq, Nat.reduceLeDiff, Int.reduceToNat, Int.reduceNe, Int.reduceEq, Int.reduceLT, Int.reduceLE, Int.reduceBEq, Int.reduceBNe, ne_eq, not_true_eq_false, not_false_eq_true, decide_true, decide_false, List.length_map, e4, e5, e10, n4, n5, nS, nM, n10, nx, hnm, hnm2, Try.results62]
            · intro id h
              have := inI_mem h
              simp only [List.mem_cons, List.not_mem_nil, or_false] at this
              rcases this with rfl | rfl <;> rfl
end Go.Proofs.Ytjbgckjcbmmobaa

/- The contracts of chapter 39: groups of carriers whose balances are not 0. -/
set_option maxRecDepth 100000
set_option linter.unusedSimpArgs false
namespace Go.Proofs.Ytjbgckjcbmmobaa
open Go.Vai Go Go.Proofs

theorem sumK_low (b : List Int) {s c : Nat} (h : s < 2 ^ c) : sumK b s (c + 1) = sumK b s c := by
  rw [sumK, Nat.testBit_lt_two_pow h]; simp
theorem or_two {s c : Nat} (h : s < 2 ^ c) : s ||| 2 ^ c = s + 2 ^ c := by
  have := Nat.two_pow_add_eq_or_of_lt h 1
  rw [Nat.mul_one] at this
  rw [Nat.or_comm, ← this, Nat.add_comm]
theorem sumK_or (b : List Int) {s c : Nat} (h : s < 2 ^ c) : ∀ i, i ≤ c → sumK b (s + 2 ^ c) i = sumK b s i
  | 0, _ => rfl
  | i + 1, hi => by
    rw [sumK, sumK, sumK_or b h i (by omega), ← or_two h, Nat.testBit_or, Nat.testBit_two_pow]
    have : decide (c = i) = false := by simp; omega
    rw [this, Bool.or_false]
theorem sumK_new (b : List Int) {s c : Nat} (h : s < 2 ^ c) : sumK b (s + 2 ^ c) (c + 1) = sumK b s c + gd b c := by
  rw [sumK, sumK_or b h c (Nat.le_refl _), ← or_two h, Nat.testBit_or, Nat.testBit_two_pow]
  simp
theorem sumK_le (b : List Int) (h : ∀ i, i < 8 → -1000000000000 ≤ gd b i ∧ gd b i ≤ 1000000000000) (s : Nat) : ∀ i : Nat, i ≤ 8 → -(1000000000000 * (i : Int)) ≤ sumK b s i ∧ sumK b s i ≤ 1000000000000 * (i : Int)
  | 0, _ => by simp [sumK]
  | i + 1, hi => by
    have ih := sumK_le b h s i (by omega)
    have := h i (by omega)
    rw [sumK]
    split <;> omega
@[go_sem] theorem tzA_67 : tzA Try.prog 67 = some (.agg ((List.replicate 256 (0 : Int)).map I)) := by kernel_rfl
theorem grouped_ev (b : List Int) (hb : goodF b = true) : Ev Try.prog 53 [SL b] (SL (gI (gF b 256 (usedF b)))) := by
  obtain ⟨g1, g2, g3⟩ := (goodF_iff b).1 hb
  have hr : ∀ i, i < 8 → -1000000000000 ≤ gd b i ∧ gd b i ≤ 1000000000000 := fun i hi => (inF_iff _ _ _).1 (g1 i (by omega))
  refine ev_of Try.func53 rfl (by kernel_rfl) mo (Nat.le_of_ble_eq_true rfl) ?_
  generalize hz : List.replicate 256 (0 : Int) = Z
  have hZ : Z.length = 256 := by rw [← hz]; exact List.length_replicate
  have hZ0 : gd Z 0 = 0 := by rw [← hz]; rfl
  simp -implicitDefEqProofs (disch := omega) only [go_sem, ↓reduceIte, Nat.reduceEqDiff, Nat.reduceMul, Nat.reduceAdd, Nat.reduceDiv, Nat.reduceBEq, Nat.reduceLeDiff, Int.reduceToNat, Int.reduceNe, Int.reduceEq, Int.reduceLT, Int.reduceLE, Int.reduceBEq, Int.reduceBNe, ne_eq, not_true_eq_false, not_false_eq_true, decide_true, decide_false, List.length_map, Try.ntmps53, hz, hZ]
  refine loopC_mk (fun n E σ => ∃ (c : Nat) (S : List Int), c + n = 8 ∧ S.length = 256 ∧ (∀ s, s < 2 ^ c → gd S s = sumK b s c) ∧ E 0 = SL b ∧ E 3 = .ptr 113246256 256 0 0 ∧ E 4 = I (usedK b c) ∧ E 8 = SL b ∧ E 9 = I 8 ∧ E 10 = I c ∧
    σ 113246256 = some ⟨67, 256, [.agg (S.map I)]⟩) 8 ⟨0, Z, rfl, hZ, ?_, ?_⟩ ?_
  · intro s hs
    have : s = 0 := by simpa using hs
    subst this; rw [hZ0, sumK]
  · simp -implicitDefEqProofs (disch := omega) only [go_sem, ↓reduceIte, Nat.reduceEqDiff, Nat.reduceMul, Nat.reduceAdd, Nat.reduceDiv, Nat.reduceBEq, Nat.reduceLeDiff, Int.reduceToNat, Int.reduceNe, Int.reduceEq, Int.reduceLT, Int.reduceLE, Int.reduceBEq, Int.reduceBNe, ne_eq, not_true_eq_false, not_false_eq_true, decide_true, decide_false, List.length_map, g2]
    exact ⟨rfl, rfl, rfl⟩
  · rintro n E σ ⟨c, S, hc, hS, hall, h0, h3, h4, h8, h9, h10, mS⟩
    simp -implicitDefEqProofs (disch := omega) only [go_sem, ↓reduceIte, Nat.reduceEqDiff, Nat.reduceMul, Nat.reduceAdd, Nat.reduceDiv, Nat.reduceBEq, Nat.reduceLeDiff, Int.reduceToNat, Int.reduceNe, Int.reduceEq, Int.reduceLT, Int.reduceLE, Int.reduceBEq, Int.reduceBNe, ne_eq, not_true_eq_false, not_false_eq_true, decide_true, decide_false, List.length_map, h0, h3, h4, h8, h9, h10, mS]
    refine branch_mk (fun hlt => ?_) (fun hlt => ?_)
    · have hc8 : c < 8 := by omega
      have e1 : IntKind.i64.wrap (1 * 2 ^ min c 64) = ((2 ^ c : Nat) : Int) := shl_min (by omega)
      have hp : 2 ^ c ≤ 128 := Nat.pow_le_pow_right (n := 2) (by omega) (show c ≤ 7 by omega)
      have hu := usedK_lt b c
      have hbc := hr c hc8
      simp -implicitDefEqProofs (disch := omega) only [go_sem, ↓reduceIte, Nat.reduceEqDiff, Nat.reduceMul, Nat.reduceAdd, Nat.reduceDiv, Nat.reduceBEq, Nat.reduceLeDiff, Int.reduceToNat, Int.reduceNe, Int.reduceEq, Int.reduceLT, Int.reduceLE, Int.reduceBEq, Int.reduceBNe, ne_eq, not_true_eq_false, not_false_eq_true, decide_true, decide_false, List.length_map, h0, h3, h4, h8, h9, h10, mS, g2, e1]
      refine loopC_mk (fun k E σ => ∃ (v : Nat) (S : List Int), v + k = 2 ^ c ∧ S.length = 256 ∧ (∀ s, s < 2 ^ c → gd S s = sumK b s c) ∧ (∀ s, s < v → gd S (s + 2 ^ c) = sumK b s c + gd b c) ∧ E 0 = SL b ∧ E 3 = .ptr 113246256 256 0 0 ∧ E 4 = I (usedK b c) ∧
        E 5 = I c ∧ E 6 = I (gd b c) ∧ E 8 = SL b ∧ E 9 = I 8 ∧ E 10 = I c ∧ E 16 = I (2 ^ c : Nat) ∧ E 17 = I v ∧ σ 113246256 = some ⟨67, 256, [.agg (S.map I)]⟩) (2 ^ c) ⟨0, S, by omega, hS, hall, fun s hs => by omega, ?_⟩ ?_
      · simp -implicitDefEqProofs (disch := omega) only [go_sem, ↓reduceIte, Nat.reduceEqDiff, Nat.reduceMul, Nat.reduceAdd, Nat.reduceDiv, Nat.reduceBEq, Nat.reduceLeDiff, Int.reduceToNat, Int.reduceNe, Int.reduceEq, Int.reduceLT, Int.reduceLE, Int.reduceBEq, Int.reduceBNe, ne_eq, not_true_eq_false, not_false_eq_true, decide_true, decide_false, List.length_map, h0, h3, h4, h8, h9, h10, mS, g2, e1]
        rfl
      · clear h0 h3 h4 h8 h9 h10 mS hall hS S E σ
        rintro k E σ ⟨v, S, hv, hS, hall, hnew, h0, h3, h4, h5, h6, h8, h9, h10, h16, h17, mS⟩
        simp -implicitDefEqProofs (disch := omega) only [go_sem, ↓reduceIte, Nat.reduceEqDiff, Nat.reduceMul, Nat.reduceAdd, Nat.reduceDiv, Nat.reduceBEq, Nat.reduceLeDiff, Int.reduceToNat, Int.reduceNe, Int.reduceEq, Int.reduceLT, Int.reduceLE, Int.reduceBEq, Int.reduceBNe, ne_eq, not_true_eq_false, not_false_eq_true, decide_true, decide_false, List.length_map, h0, h3, h4, h5, h6, h8, h9, h10, h16, h17, mS]
        refine branch_mk (fun hlv => ?_) (fun hlv => ?_)
        · have hv2 : v < 2 ^ c := by omega
          have e3 : bitsI .or .i64 (v : Int) ((2 ^ c : Nat) : Int) = ((v + 2 ^ c : Nat) : Int) := by rw [or_nat (by omega) (by omega), or_two hv2]
          have e4 := hall v hv2
          have hsl := sumK_le b hr v c (by omega)
          have hw : IntKind.i64.wrap (sumK b v c + gd b c) = sumK b v c + gd b c := wrap64_of (by omega)
          simp -implicitDefEqProofs (disch := omega) only [go_sem, ↓reduceIte, Nat.reduceEqDiff, Nat.reduceMul, Nat.reduceAdd, Nat.reduceDiv, Nat.reduceBEq, Nat.reduceLeDiff, Int.reduceToNat, Int.reduceNe, Int.reduceEq, Int.reduceLT, Int.reduceLE, Int.reduceBEq, Int.reduceBNe, ne_eq, not_true_eq_false, not_false_eq_true, decide_true, decide_false, List.length_map, h0, h3, h4, h5, h6, h8, h9, h10, h16, h17, mS, hS, e1, e3, e4, hw]
          refine againQ_mk (k - 1) (by omega) ⟨v + 1, S.set (v + 2 ^ c) (sumK b v c + gd b c), by omega, by simpa using hS, fun s hs => ?_, fun s hs => ?_, ?_⟩
          · rw [gd_set _ _ _ _ (by omega), if_neg (by omega)]; exact hall s hs
          · rw [gd_set _ _ _ _ (by omega)]
            by_cases e : s = v
            · subst e; rw [if_pos rfl]
            · rw [if_neg (by omega)]; exact hnew s (by omega)
          · simp -implicitDefEqProofs (disch := omega) only [go_sem, ↓reduceIte, Nat.reduceEqDiff, Nat.reduceMul, Nat.reduceAdd, Nat.reduceDiv, Nat.reduceBEq, Nat.reduceLeDiff, Int.reduceToNat, Int.reduceNe, Int.reduceEq, Int.reduceLT, Int.reduceLE, Int.reduceBEq, Int.reduceBNe, ne_eq, not_true_eq_false, not_false_eq_true, decide_true, decide_false, List.length_map, h0, h3, h4, h5, h6, h8, h9, h10, h16, h17, mS, hS]
            simp
        · have hv2 : v = 2 ^ c := by omega
          have hfin : ∀ s, s < 2 ^ (c + 1) → gd S s = sumK b s (c + 1) := fun s hs => by
            by_cases e : s < 2 ^ c
            · rw [sumK_low b e]; exact hall s e
            · obtain ⟨t, rfl⟩ : ∃ t, s = t + 2 ^ c := ⟨s - 2 ^ c, by omega⟩
              rw [Nat.pow_succ] at hs
              rw [sumK_new b (by omega)]; exact hnew t (by omega)
          simp -implicitDefEqProofs (disch := omega) only [go_sem, ↓reduceIte, Nat.reduceEqDiff, Nat.reduceMul, Nat.reduceAdd, Nat.reduceDiv, Nat.reduceBEq, Nat.reduceLeDiff, Int.reduceToNat, Int.reduceNe, Int.reduceEq, Int.reduceLT, Int.reduceLE, Int.reduceBEq, Int.reduceBNe, ne_eq, not_true_eq_false, not_false_eq_true, decide_true, decide_false, List.length_map, h0, h3, h4, h5, h6, h8, h9, h10, h16, h17, mS]
          refine branch_mk (fun hne => ?_) (fun hne => ?_)
          · have e5 : bitsI .or .i64 (usedK b c : Int) ((2 ^ c : Nat) : Int) = ((usedK b c ||| 2 ^ c : Nat) : Int) := or_nat (by omega) (by omega)
            have e6 : usedK b (c + 1) = usedK b c ||| 2 ^ c := by rw [usedK, if_neg (by omega)]
            simp -implicitDefEqProofs (disch := omega) only [go_sem, ↓reduceIte, Nat.reduceEqDiff, Nat.reduceMul, Nat.reduceAdd, Nat.reduceDiv, Nat.reduceBEq, Nat.reduceLeDiff, Int.reduceToNat, Int.reduceNe, Int.reduceEq, Int.reduceLT, Int.reduceLE, Int.reduceBEq, Int.reduceBNe, ne_eq, not_true_eq_false, not_false_eq_true, decide_true, decide_false, List.length_map, h0, h3, h4, h5, h6, h8, h9, h10, h16, h17, mS, e1, e5]
            refine againQ_mk (n - 1) (by omega) ⟨c + 1, S, by omega, hS, hfin, ?_⟩
            simp -implicitDefEqProofs (disch := omega) only [go_sem, ↓reduceIte, Nat.reduceEqDiff, Nat.reduceMul, Nat.reduceAdd, Nat.reduceDiv, Nat.reduceBEq, Nat.reduceLeDiff, Int.reduceToNat, Int.reduceNe, Int.reduceEq, Int.reduceLT, Int.reduceLE, Int.reduceBEq, Int.reduceBNe, ne_eq, not_true_eq_false, not_false_eq_true, decide_true, decide_false, List.length_map, h0, h3, h4, h5, h6, h8, h9, h10, h16, h17, mS, e6]
            simp
          · have e6 : usedK b (c + 1) = usedK b c := by rw [usedK, if_pos (by omega)]
            simp -implicitDefEqProofs (disch := omega) only [go_sem, ↓reduceIte, Nat.reduceEqDiff, Nat.reduceMul, Nat.reduceAdd, Nat.reduceDiv, Nat.reduceBEq, Nat.reduceLeDiff, Int.reduceToNat, Int.reduceNe, Int.reduceEq, Int.reduceLT, Int.reduceLE, Int.reduceBEq, Int.reduceBNe, ne_eq, not_true_eq_false, not_false_eq_true, decide_true, decide_false, List.length_map, h0, h3, h4, h5, h6, h8, h9, h10, h16, h17, mS]
            refine againQ_mk (n - 1) (by omega) ⟨c + 1, S, by omega, hS, hfin, ?_⟩
            simp -implicitDefEqProofs (disch := omega) only [go_sem, ↓reduceIte, Nat.reduceEqDiff, Nat.reduceMul, Nat.reduceAdd, Nat.reduceDiv, Nat.reduceBEq, Nat.reduceLeDiff, Int.reduceToNat, Int.reduceNe, Int.reduceEq, Int.reduceLT, Int.reduceLE, Int.reduceBEq, Int.reduceBNe, ne_eq, not_true_eq_false, not_false_eq_true, decide_true, decide_false, List.length_map, h0, h3, h4, h5, h6, h8, h9, h10, h16, h17, mS, e6]
            simp
    · have : c = 8 := by omega
      subst this
      have hL := groups_lok b S hS hall 256 (usedF b) [] (usedF_lt b) (usedF_lt b) (show KvOK b [] from fun p hp => by cases hp)
      have hk2 := kvF_ok 256 [] (usedF b) (usedF_lt b) (show KvOK b [] from fun p hp => by cases hp)
      have hnm2 := namesL_kv hk2
      unfold LKG at hL
      generalize kvF b 256 [] (usedF b) = kv2 at *
      generalize gF b 256 (usedF b) = g at *
      have hL : LOK Try.prog 62 (inI [113246256, 113246816]) ([.ptr 113246256 256 0 0, .mref 113246816, I (usedF b : Nat)] ++ []) (stO (LG S [])) (SL (gI g)) (stO (LG S kv2)) := hL
      rw [show usedK b 8 = usedF b from rfl] at h4
      simp -implicitDefEqProofs (disch := omega) only [go_sem, ↓reduceIte, Nat.reduceEqDiff, Nat.reduceMul, Nat.reduceAdd, Nat.reduceDiv, Nat.reduceBEq, Nat.reduceLeDiff, Int.reduceToNat, Int.reduceNe, Int.reduceEq, Int.reduceLT, Int.reduceLE, Int.reduceBEq, Int.reduceBNe, ne_eq, not_true_eq_false, not_false_eq_true, decide_true, decide_false, List.length_map, h0, h3, h4, h8, h9, h10, mS]
      refine makeMap_mk ?_
      simp -implicitDefEqProofs (disch := omega) only [go_sem, ↓reduceIte, Nat.reduceEqDiff, Nat.reduceMul, Nat.reduceAdd, Nat.reduceDiv, Nat.reduceBEq, Nat.reduceLeDiff, Int.reduceToNat, Int.reduceNe, Int.reduceEq, Int.reduceLT, Int.reduceLE, Int.reduceBEq, Int.reduceBNe, ne_eq, not_true_eq_false, not_false_eq_true, decide_true, decide_false, List.length_map, h0, h3, h4, h8, h9, h10, mS]
      refine callC_sem rfl ?_
      refine lent_mk [113246256, 113246816] hL ?_ ?_ ?_ ?_ ?_ ?_ ?_ (hsp := fun id h _ => List.contains_iff_mem.2 h)
      · simp -implicitDefEqProofs (disch := omega) only [go_sem, ↓reduceIte, Nat.reduceEqDiff, Nat.reduceMul, Nat.reduceAdd, Nat.reduceDiv, Nat.reduceBEq, Nat.reduceLeDiff, Int.reduceToNat, Int.reduceNe, Int.reduceEq, Int.reduceLT, Int.reduceLE, Int.reduceBEq, Int.reduceBNe, ne_eq, not_true_eq_false, not_false_eq_true, decide_true, decide_false, List.length_map]
      · simp -implicitDefEqProofs (disch := omega) only [go_sem, ↓reduceIte, Nat.reduceEqDiff, Nat.reduceMul, Nat.reduceAdd, Nat.reduceDiv, Nat.reduceBEq, Nat.reduceLeDiff, Int.reduceToNat, Int.reduceNe, Int.reduceEq, Int.reduceLT, Int.reduceLE, Int.reduceBEq, Int.reduceBNe, ne_eq, not_true_eq_false, not_false_eq_true, decide_true, decide_false, List.length_map, h3, h4]
      · simp -implicitDefEqProofs (disch := omega) only [go_sem, ↓reduceIte, Nat.reduceEqDiff, Nat.reduceMul, Nat.reduceAdd, Nat.reduceDiv, Nat.reduceBEq, Nat.reduceLeDiff, Int.reduceToNat, Int.reduceNe, Int.reduceEq, Int.reduceLT, Int.reduceLE, Int.reduceBEq, Int.reduceBNe, ne_eq, not_true_eq_false, not_false_eq_true, decide_true, decide_false, List.length_map, mS]
      · simp -implicitDefEqProofs (disch := omega) only [go_sem, ↓reduceIte, Nat.reduceEqDiff, Nat.reduceMul, Nat.reduceAdd, Nat.reduceDiv, Nat.reduceBEq, Nat.reduceLeDiff, Int.reduceToNat, Int.reduceNe, Int.reduceEq, Int.reduceLT, Int.reduceLE, Int.reduceBEq, Int.reduceBNe, ne_eq, not_true_eq_false, not_false_eq_true, decide_true, decide_false, List.length_map]
      · simp -implicitDefEqProofs (disch := omega) only [go_sem, ↓reduceIte, Nat.reduceEqDiff, Nat.reduceMul, Nat.reduceAdd, Nat.reduceDiv, Nat.reduceBEq, Nat.reduceLeDiff, Int.reduceToNat, Int.reduceNe, Int.reduceEq, Int.reduceLT, Int.reduceLE, Int.reduceBEq, Int.reduceBNe, ne_eq, not_true_eq_false, not_false_eq_true, decide_true, decide_false, List.length_map]
      · simp -implicitDefEqProofs (disch := omega) only [go_sem, ↓reduceIte, Nat.reduceEqDiff, Nat.reduceMul, Nat.reduceAdd, Nat.reduceDiv, Nat.reduceBEq, Nat.reduceLeDiff, Int.reduceToNat, Int.reduceNe, Int.reduceEq, Int.reduceLT, Int.reduceLE, Int.reduceBEq, Int.reduceBNe, ne_eq, not_true_eq_false, not_false_eq_true, decide_true, decide_false, List.length_map, hnm2]
      · simp -implicitDefEqProofs (disch := omega) only [go_sem, ↓reduceIte, Nat.reduceEqDiff, Nat.reduceMul, Nat.reduceAdd, Nat.reduceDiv, Nat.reduceBEq, Nat.reduceLeDiff, Int.reduceToNat, Int.reduceNe, Int.reduceEq, Int.reduceLT, Int.reduceLE, Int.reduceBEq, Int.reduceBNe, ne_eq, not_true_eq_false, not_false_eq_true, decide_true, decide_false, List.length_map, h0, h3, h4, h8, h9, h10, mS, Try.results53]
end Go.Proofs.Ytjbgckjcbmmobaa

/- The contracts of chapter 39: Settle. -/
set_option maxRecDepth 100000
set_option linter.unusedSimpArgs false
namespace Go.Proofs.Ytjbgckjcbmmobaa
open Go.Vai Go Go.Proofs

/-- What 'Settle' returns. -/
def settR (b : List Int) : AV := if goodF b = true then .tup [.new 47 3 ((settF b (usedF b)).map DP), Er 0] else .tup [.new 47 3 [], Er 390]
set_option maxHeartbeats 1000000 in
theorem Settle_ev (b : List Int) (hl : b.length ≤ 9223372036854775807) : Ev Try.prog 30 [SL b] (settR b) := by
  refine ev_of Try.func30 rfl (by kernel_rfl) mo (Nat.le_of_ble_eq_true rfl) ?_
  simp -implicitDefEqProofs (disch := omega) only [go_sem, ↓reduceIte, Nat.reduceEqDiff, Nat.reduceMul, Nat.reduceAdd, Nat.reduceDiv, Nat.reduceBEq, Nat.reduceLeDiff, Int.reduceToNat, Int.reduceNe, Int.reduceEq, Int.reduceLT, Int.reduceLE, Int.reduceBEq, Int.reduceBNe, ne_eq, not_true_eq_false, not_false_eq_true, decide_true, decide_false, List.length_map, Try.ntmps30]
  refine callC_at (isGood_ev b hl) ?_
  simp -implicitDefEqProofs (disch := omega) only [go_sem, ↓reduceIte, Nat.reduceEqDiff, Nat.reduceMul, Nat.reduceAdd, Nat.reduceDiv, Nat.reduceBEq, Nat.reduceLeDiff, Int.reduceToNat, Int.reduceNe, Int.reduceEq, Int.reduceLT, Int.reduceLE, Int.reduceBEq, Int.reduceBNe, ne_eq, not_true_eq_false, not_false_eq_true, decide_true, decide_false, List.length_map]
  refine branch_mk (fun hb => ?_) (fun hb => ?_)
  · simp -implicitDefEqProofs (disch := omega) only [go_sem, ↓reduceIte, Nat.reduceEqDiff, Nat.reduceMul, Nat.reduceAdd, Nat.reduceDiv, Nat.reduceBEq, Nat.reduceLeDiff, Int.reduceToNat, Int.reduceNe, Int.reduceEq, Int.reduceLT, Int.reduceLE, Int.reduceBEq, Int.reduceBNe, ne_eq, not_true_eq_false, not_false_eq_true, decide_true, decide_false, List.length_map, Try.results30]
    simp [settR, hb]
  · have hb : goodF b = true := by simpa using hb
    obtain ⟨h8, hr, _⟩ := good_rng hb
    rw [settR, if_pos hb]
    simp -implicitDefEqProofs (disch := omega) only [go_sem, ↓reduceIte, Nat.reduceEqDiff, Nat.reduceMul, Nat.reduceAdd, Nat.reduceDiv, Nat.reduceBEq, Nat.reduceLeDiff, Int.reduceToNat, Int.reduceNe, Int.reduceEq, Int.reduceLT, Int.reduceLE, Int.reduceBEq, Int.reduceBNe, ne_eq, not_true_eq_false, not_false_eq_true, decide_true, decide_false, List.length_map]
    refine callC_at (clone_ev b (by omega) (by omega)) ?_
    simp -implicitDefEqProofs (disch := omega) only [go_sem, ↓reduceIte, Nat.reduceEqDiff, Nat.reduceMul, Nat.reduceAdd, Nat.reduceDiv, Nat.reduceBEq, Nat.reduceLeDiff, Int.reduceToNat, Int.reduceNe, Int.reduceEq, Int.reduceLT, Int.reduceLE, Int.reduceBEq, Int.reduceBNe, ne_eq, not_true_eq_false, not_false_eq_true, decide_true, decide_false, List.length_map, h8]
    have hgr := grouped_ev b hb
    have hat := fun i => sett_at hb i
    have hset : settF b (usedF b) = ((grpsF b).foldl (fun st g => payF g st) (b, [])).2 := rfl
    have h256 : ∀ i, i < (grpsF b).length → gd (grpsF b) i < 256 := fun i hi => (grps_has hb (gd_mem _ i hi)).1
    have hgl : (grpsF b).length ≤ 8 := by have := (settF_spec hb).2.2; have h8' := nzK_le b 8; unfold nzF at this; omega
    rw [hset]
    rw [show gF b 256 (usedF b) = grpsF b from rfl] at hgr
    have htf := take_fold (b := b) (grpsF b)
    generalize grpsF b = gs at *
    refine callC_at hgr ?_
    simp -implicitDefEqProofs (disch := omega) only [go_sem, ↓reduceIte, Nat.reduceEqDiff, Nat.reduceMul, Nat.reduceAdd, Nat.reduceDiv, Nat.reduceBEq, Nat.reduceLeDiff, Int.reduceToNat, Int.reduceNe, Int.reduceEq, Int.reduceLT, Int.reduceLE, Int.reduceBEq, Int.reduceBNe, ne_eq, not_true_eq_false, not_false_eq_true, decide_true, decide_false, List.length_map, h8]
    refine loopC_mk (fun n E σ => ∃ (i : Nat) (l : List Int) (o : List Deb), i + n = gs.length ∧ (l, o) = (gs.take i).foldl (fun st g => payF g st) (b, []) ∧ l.length = 8 ∧ o.length ≤ 8 ∧ E 4 = .own 65011776 3 0 o.length ∧ E 5 = .ptr 65011792 1 0 0 ∧
      E 6 = .clo 50 [.ptr 65011792 1 0 0] ∧ E 19 = SL (gI gs) ∧ E 20 = I gs.length ∧ E 21 = I i ∧ σ 65011776 = some ⟨47, 3, o.map DP⟩ ∧ σ 65011792 = some ⟨25, 1, [.own 65011968 1 0 8]⟩ ∧ σ 65011968 = some ⟨3, 1, l.map I⟩) gs.length ⟨0, b, [], by omega, rfl, h8, by simp, ?_⟩ ?_
    · simp -implicitDefEqProofs (disch := omega) only [go_sem, ↓reduceIte, Nat.reduceEqDiff, Nat.reduceMul, Nat.reduceAdd, Nat.reduceDiv, Nat.reduceBEq, Nat.reduceLeDiff, Int.reduceToNat, Int.reduceNe, Int.reduceEq, Int.reduceLT, Int.reduceLE, Int.reduceBEq, Int.reduceBNe, ne_eq, not_true_eq_false, not_false_eq_true, decide_true, decide_false, List.length_map, h8]
      rfl
    · rintro n E σ ⟨i, l, o, hi, hst, hl8, ho, h4, h5, h6, h19, h20, h21, m4, m5, mL⟩
      simp -implicitDefEqProofs (disch := omega) only [go_sem, ↓reduceIte, Nat.reduceEqDiff, Nat.reduceMul, Nat.reduceAdd, Nat.reduceDiv, Nat.reduceBEq, Nat.reduceLeDiff, Int.reduceToNat, Int.reduceNe, Int.reduceEq, Int.reduceLT, Int.reduceLE, Int.reduceBEq, Int.reduceBNe, ne_eq, not_true_eq_false, not_false_eq_true, decide_true, decide_false, List.length_map, h4, h5, h6, h19, h20, h21, m4, m5, mL]
      refine branch_mk (fun hlt => ?_) (fun hlt => ?_)
      · have hok := hat i (by omega)
        rw [← hst] at hok
        obtain ⟨hok, hcnt⟩ := hok
        simp only at hok hcnt
        have hg8 := h256 i (by omega)
        have hgi : gd (gI gs) i = ((gd gs i : Nat) : Int) := by
          have := gd_some gs i (by omega)
          rw [gd, List.getD_eq_getElem?_getD, List.getElem?_map, this]; rfl
        simp -implicitDefEqProofs (disch := omega) only [go_sem, ↓reduceIte, Nat.reduceEqDiff, Nat.reduceMul, Nat.reduceAdd, Nat.reduceDiv, Nat.reduceBEq, Nat.reduceLeDiff, Int.reduceToNat, Int.reduceNe, Int.reduceEq, Int.reduceLT, Int.reduceLE, Int.reduceBEq, Int.reduceBNe, ne_eq, not_true_eq_false, not_false_eq_true, decide_true, decide_false, List.length_map, h4, h5, h6, h19, h20, h21, m4, m5, mL, hgi]
        have htf := htf i (by omega)
        rw [← hst] at htf
        generalize gd gs i = g at *
        refine loopC_mk (fun k E σ => ∃ (l' : List Int) (o' : List Deb), nzF l' = k ∧ payF g (l', o') = payF g (l, o) ∧ GrpOK g l' ∧ o'.length + nzF l' ≤ 8 ∧ E 4 = .own 65011776 3 0 o'.length ∧ E 5 = .ptr 65011792 1 0 0 ∧
          E 6 = .clo 50 [.ptr 65011792 1 0 0] ∧ E 8 = I (g : Nat) ∧ E 19 = SL (gI gs) ∧ E 20 = I gs.length ∧ E 21 = I i ∧ σ 65011776 = some ⟨47, 3, o'.map DP⟩ ∧ σ 65011792 = some ⟨25, 1, [.own 65011968 1 0 8]⟩ ∧ σ 65011968 = some ⟨3, 1, l'.map I⟩) (nzF l) ⟨l, o, rfl, rfl, hok, hcnt, ?_⟩ ?_
        · simp -implicitDefEqProofs (disch := omega) only [go_sem, ↓reduceIte, Nat.reduceEqDiff, Nat.reduceMul, Nat.reduceAdd, Nat.reduceDiv, Nat.reduceBEq, Nat.reduceLeDiff, Int.reduceToNat, Int.reduceNe, Int.reduceEq, Int.reduceLT, Int.reduceLE, Int.reduceBEq, Int.reduceBNe, ne_eq, not_true_eq_false, not_false_eq_true, decide_true, decide_false, List.length_map, h4, h5, h6, h19, h20, h21, m4, m5, mL, hgi]
        · clear h4 h5 h6 h19 h20 h21 m4 m5 mL E σ
          rintro k E σ ⟨l', o', hk, hpay, hok', hcnt', h4, h5, h6, h8', h19, h20, h21, m4, m5, mL⟩
          have hl8' := hok'.len
          have e8 : l'.take 8 = l' := List.take_of_length_le (by omega)
          simp -implicitDefEqProofs (disch := omega) only [go_sem, ↓reduceIte, Nat.reduceEqDiff, Nat.reduceMul, Nat.reduceAdd, Nat.reduceDiv, Nat.reduceBEq, Nat.reduceLeDiff, Int.reduceToNat, Int.reduceNe, Int.reduceEq, Int.reduceLT, Int.reduceLE, Int.reduceBEq, Int.reduceBNe, ne_eq, not_true_eq_false, not_false_eq_true, decide_true, decide_false, List.length_map, h4, h5, h6, h8', h19, h20, h21, m4, m5, mL, hl8', e8]
          refine callC_at (next_ev l' g (-1) hl8' hg8 (.inr rfl) hok'.rng) ?_
          simp -implicitDefEqProofs (disch := omega) only [go_sem, ↓reduceIte, Nat.reduceEqDiff, Nat.reduceMul, Nat.reduceAdd, Nat.reduceDiv, Nat.reduceBEq, Nat.reduceLeDiff, Int.reduceToNat, Int.reduceNe, Int.reduceEq, Int.reduceLT, Int.reduceLE, Int.reduceBEq, Int.reduceBNe, ne_eq, not_true_eq_false, not_false_eq_true, decide_true, decide_false, List.length_map, h4, h5, h6, h8', h19, h20, h21, m4, m5, mL, hl8', e8]
          refine callC_at (next_ev l' g 1 hl8' hg8 (.inl rfl) hok'.rng) ?_
          simp -implicitDefEqProofs (disch := omega) only [go_sem, ↓reduceIte, Nat.reduceEqDiff, Nat.reduceMul, Nat.reduceAdd, Nat.reduceDiv, Nat.reduceBEq, Nat.reduceLeDiff, Int.reduceToNat, Int.reduceNe, Int.reduceEq, Int.reduceLT, Int.reduceLE, Int.reduceBEq, Int.reduceBNe, ne_eq, not_true_eq_false, not_false_eq_true, decide_true, decide_false, List.length_map, h4, h5, h6, h8', h19, h20, h21, m4, m5, mL, hl8', e8]
          refine branch_mk (fun hneg => ?_) (fun hneg => ?_)
          · have hneg : frmF l' g < 0 := hneg
            rw [payF_stop hneg] at hpay
            simp -implicitDefEqProofs (disch := omega) only [go_sem, ↓reduceIte, Nat.reduceEqDiff, Nat.reduceMul, Nat.reduceAdd, Nat.reduceDiv, Nat.reduceBEq, Nat.reduceLeDiff, Int.reduceToNat, Int.reduceNe, Int.reduceEq, Int.reduceLT, Int.reduceLE, Int.reduceBEq, Int.reduceBNe, ne_eq, not_true_eq_false, not_false_eq_true, decide_true, decide_false, List.length_map, h4, h5, h6, h8', h19, h20, h21, m4, m5, mL, hl8', e8]
            refine againQ_mk (n - 1) (by omega) ⟨i + 1, l', o', by omega, hpay.trans htf.symm, hl8', by omega, ?_⟩
            simp -implicitDefEqProofs (disch := omega) only [go_sem, ↓reduceIte, Nat.reduceEqDiff, Nat.reduceMul, Nat.reduceAdd, Nat.reduceDiv, Nat.reduceBEq, Nat.reduceLeDiff, Int.reduceToNat, Int.reduceNe, Int.reduceEq, Int.reduceLT, Int.reduceLE, Int.reduceBEq, Int.reduceBNe, ne_eq, not_true_eq_false, not_false_eq_true, decide_true, decide_false, List.length_map, h4, h5, h6, h8', h19, h20, h21, m4, m5, mL, hl8', e8]
            simp
          · have hneg : ¬ frmF l' g < 0 := hneg
            obtain ⟨f, t, hp⟩ := frm_pos hok' hneg
            obtain ⟨a1, a2, a3, a4, a5, a6, ap, al, aat⟩ := pay_at hok' hp
            have hz := (pay_nz hok' hp).1
            have ef : selF l' g (-1) 0 8 = (f : Int) := hp.frm
            have et : selF l' g 1 0 8 = (t : Int) := hp.to
            have f8 := hp.f8
            have t8 := hp.t8
            have rf := hok'.rng f f8
            have rt := hok'.rng t t8
            have wn : IntKind.i64.wrap (0 - gd l' f) = -(gd l' f) := by rw [Int.zero_sub]; exact wrap64_of (by omega)
            have em : min (-(gd l' f)) (gd l' t) = amtF l' g := by unfold amtF; rw [hp.frm, hp.to, Int.toNat_natCast, Int.toNat_natCast]
            have e1 : IntKind.i64.wrap (gd l' f + amtF l' g) = gd l' f + amtF l' g := wrap64_of (by omega)
            have e2 : gd (l'.set f (gd l' f + amtF l' g)) t = gd l' t := by rw [gd_set _ _ _ _ (by omega), if_neg (fun e => a6 e.symm)]
            have e3 : IntKind.i64.wrap (gd l' t - amtF l' g) = gd l' t - amtF l' g := wrap64_of (by omega)
            have ep2 : payL l' g = (l'.set f (gd l' f + amtF l' g)).set t (gd l' t - amtF l' g) := by
              rw [ap]; unfold addF; rw [Int.toNat_natCast, Int.toNat_natCast, e2, Int.sub_eq_add_neg]
            have ed : payD l' g = ((f : Int), (t : Int), amtF l' g) := by unfold payD; rw [hp.frm, hp.to]
            have hstep := payF_step (o := o') hok' hneg
            rw [ed] at hstep
            simp -implicitDefEqProofs (disch := omega) only [go_sem, ↓reduceIte, Nat.reduceEqDiff, Nat.reduceMul, Nat.reduceAdd, Nat.reduceDiv, Nat.reduceBEq, Nat.reduceLeDiff, Int.reduceToNat, Int.reduceNe, Int.reduceEq, Int.reduceLT, Int.reduceLE, Int.reduceBEq, Int.reduceBNe, ne_eq, not_true_eq_false, not_false_eq_true, decide_true, decide_false, List.length_map, h4, h5, h6, h8', h19, h20, h21, m4, m5, mL, hl8', e8, ef, et, wn, em, e1, e2, e3]
            refine againQ_mk (nzF (payL l' g)) (by omega) ⟨payL l' g, o' ++ [((f : Int), (t : Int), amtF l' g)], rfl, hstep.symm.trans hpay, pay_ok hok' hp, by rw [List.length_append, List.length_singleton]; omega, ?_⟩
            simp -implicitDefEqProofs (disch := omega) only [go_sem, ↓reduceIte, Nat.reduceEqDiff, Nat.reduceMul, Nat.reduceAdd, Nat.reduceDiv, Nat.reduceBEq, Nat.reduceLeDiff, Int.reduceToNat, Int.reduceNe, Int.reduceEq, Int.reduceLT, Int.reduceLE, Int.reduceBEq, Int.reduceBNe, ne_eq, not_true_eq_false, not_false_eq_true, decide_true, decide_false, List.length_map, h4, h5, h6, h8', h19, h20, h21, m4, m5, mL, hl8', e8, ep2]
      · have : i = gs.length := by omega
        subst this
        rw [List.take_length] at hst
        rw [← hst]
        simp -implicitDefEqProofs (disch := omega) only [go_sem, ↓reduceIte, Nat.reduceEqDiff, Nat.reduceMul, Nat.reduceAdd, Nat.reduceDiv, Nat.reduceBEq, Nat.reduceLeDiff, Int.reduceToNat, Int.reduceNe, Int.reduceEq, Int.reduceLT, Int.reduceLE, Int.reduceBEq, Int.reduceBNe, ne_eq, not_true_eq_false, not_false_eq_true, decide_true, decide_false, List.length_map, h4, h5, h6, h19, h20, h21, m4, m5, mL, Try.results30]
end Go.Proofs.Ytjbgckjcbmmobaa

/- The contracts of chapter 39: the least number of payments. -/
set_option maxRecDepth 100000
set_option linter.unusedSimpArgs false
namespace Go.Proofs.Ytjbgckjcbmmobaa
open Go.Vai Go Go.Proofs

/-- What 'Fewest' returns. -/
def fewT (b : List Int) : AV := if goodF b = true then .tup [I (fewN b), Er 0] else .tup [I 0, Er 390]
theorem Fewest_ev (b : List Int) (hl : b.length ≤ 9223372036854775807) : Ev Try.prog 28 [SL b] (fewT b) := by
  refine ev_of Try.func28 rfl (by kernel_rfl) mo (Nat.le_of_ble_eq_true rfl) ?_
  simp -implicitDefEqProofs (disch := omega) only [go_sem, ↓reduceIte, Nat.reduceEqDiff, Nat.reduceMul, Nat.reduceAdd, Nat.reduceDiv, Nat.reduceBEq, Nat.reduceLeDiff, Int.reduceToNat, Int.reduceNe, Int.reduceEq, Int.reduceLT, Int.reduceLE, Int.reduceBEq, Int.reduceBNe, ne_eq, not_true_eq_false, not_false_eq_true, decide_true, decide_false, List.length_map, Try.ntmps28]
  have h := Settle_ev b hl
  unfold settR at h
  unfold fewT
  by_cases hb : goodF b = true
  · rw [if_pos hb] at h ⊢
    rw [← settF_length hb]
    generalize settF b (usedF b) = s at *
    refine callC_at h ?_
    simp -implicitDefEqProofs (disch := omega) only [go_sem, ↓reduceIte, Nat.reduceEqDiff, Nat.reduceMul, Nat.reduceAdd, Nat.reduceDiv, Nat.reduceBEq, Nat.reduceLeDiff, Int.reduceToNat, Int.reduceNe, Int.reduceEq, Int.reduceLT, Int.reduceLE, Int.reduceBEq, Int.reduceBNe, ne_eq, not_true_eq_false, not_false_eq_true, decide_true, decide_false, List.length_map, Try.results28]
  · rw [if_neg hb] at h ⊢
    refine callC_at h ?_
    simp -implicitDefEqProofs (disch := omega) only [go_sem, ↓reduceIte, Nat.reduceEqDiff, Nat.reduceMul, Nat.reduceAdd, Nat.reduceDiv, Nat.reduceBEq, Nat.reduceLeDiff, Int.reduceToNat, Int.reduceNe, Int.reduceEq, Int.reduceLT, Int.reduceLE, Int.reduceBEq, Int.reduceBNe, ne_eq, not_true_eq_false, not_false_eq_true, decide_true, decide_false, List.length_map, Try.results28]
    rfl
theorem rem_test {s c : Nat} (hc : c ≤ 8) : (((s : Int)).fdiv (2 ^ min c 64)).tmod 2 = 1 ↔ s.testBit c = true := by
  rw [shr_min hc, Int.tmod_eq_emod_of_nonneg (Int.natCast_nonneg _), Nat.testBit_eq_decide_div_mod_eq, decide_eq_true_iff]; omega
set_option maxHeartbeats 1000000 in
theorem FewestR_ev (b : List Int) (hl : b.length ≤ 9223372036854775807) : Ev Try.prog 29 [SL b] (fewT b) := by
  refine ev_of Try.func29 rfl (by kernel_rfl) mo (Nat.le_of_ble_eq_true rfl) ?_
  generalize hz : List.replicate 256 (0 : Int) = Z
  have hZ : Z.length = 256 := by rw [← hz]; exact List.length_replicate
  have hZ0 : ∀ i, i < 256 → gd Z i = 0 := fun i hi => by rw [← hz, gd, List.getD_eq_getElem?_getD, List.getElem?_replicate, if_pos hi]; rfl
  simp -implicitDefEqProofs (disch := omega) only [go_sem, ↓reduceIte, Nat.reduceEqDiff, Nat.reduceMul, Nat.reduceAdd, Nat.reduceDiv, Nat.reduceBEq, Nat.reduceLeDiff, Int.reduceToNat, Int.reduceNe, Int.reduceEq, Int.reduceLT, Int.reduceLE, Int.reduceBEq, Int.reduceBNe, ne_eq, not_true_eq_false, not_false_eq_true, decide_true, decide_false, List.length_map, Try.ntmps29, hz, hZ]
  refine branch_mk (fun h8 => ?_) (fun h8 => ?_)
  · simp -implicitDefEqProofs (disch := omega) only [go_sem, ↓reduceIte, Nat.reduceEqDiff, Nat.reduceMul, Nat.reduceAdd, Nat.reduceDiv, Nat.reduceBEq, Nat.reduceLeDiff, Int.reduceToNat, Int.reduceNe, Int.reduceEq, Int.reduceLT, Int.reduceLE, Int.reduceBEq, Int.reduceBNe, ne_eq, not_true_eq_false, not_false_eq_true, decide_true, decide_false, List.length_map, Try.results29]
    rw [fewT, good_len b (by omega)]; simp
  · simp -implicitDefEqProofs (disch := omega) only [go_sem, ↓reduceIte, Nat.reduceEqDiff, Nat.reduceMul, Nat.reduceAdd, Nat.reduceDiv, Nat.reduceBEq, Nat.reduceLeDiff, Int.reduceToNat, Int.reduceNe, Int.reduceEq, Int.reduceLT, Int.reduceLE, Int.reduceBEq, Int.reduceBNe, ne_eq, not_true_eq_false, not_false_eq_true, decide_true, decide_false, List.length_map]
    refine callC_at (good_ev b hl) ?_
    simp -implicitDefEqProofs (disch := omega) only [go_sem, ↓reduceIte, Nat.reduceEqDiff, Nat.reduceMul, Nat.reduceAdd, Nat.reduceDiv, Nat.reduceBEq, Nat.reduceLeDiff, Int.reduceToNat, Int.reduceNe, Int.reduceEq, Int.reduceLT, Int.reduceLE, Int.reduceBEq, Int.reduceBNe, ne_eq, not_true_eq_false, not_false_eq_true, decide_true, decide_false, List.length_map]
    refine branch_mk (fun hb => ?_) (fun hb => ?_)
    · simp -implicitDefEqProofs (disch := omega) only [go_sem, ↓reduceIte, Nat.reduceEqDiff, Nat.reduceMul, Nat.reduceAdd, Nat.reduceDiv, Nat.reduceBEq, Nat.reduceLeDiff, Int.reduceToNat, Int.reduceNe, Int.reduceEq, Int.reduceLT, Int.reduceLE, Int.reduceBEq, Int.reduceBNe, ne_eq, not_true_eq_false, not_false_eq_true, decide_true, decide_false, List.length_map, Try.results29]
      rw [fewT, hb]; simp
    · have hb : goodF b = true := by simpa using hb
      obtain ⟨g8, hr, _⟩ := good_rng hb
      rw [fewT, if_pos hb]
      simp -implicitDefEqProofs (disch := omega) only [go_sem, ↓reduceIte, Nat.reduceEqDiff, Nat.reduceMul, Nat.reduceAdd, Nat.reduceDiv, Nat.reduceBEq, Nat.reduceLeDiff, Int.reduceToNat, Int.reduceNe, Int.reduceEq, Int.reduceLT, Int.reduceLE, Int.reduceBEq, Int.reduceBNe, ne_eq, not_true_eq_false, not_false_eq_true, decide_true, decide_false, List.length_map, hz, hZ]
      refine loopC_mk (fun n E σ => ∃ (s : Nat) (S : List Int), s + n = 256 ∧ 1 ≤ s ∧ S.length = 256 ∧ (∀ t, t < 256 → gd S t = if t < s then (dD b t : Int) else 0) ∧ E 0 = SL b ∧ E 4 = .ptr 62914624 256 0 0 ∧ E 5 = I (uK b s) ∧ E 6 = I s ∧
        σ 62914624 = some ⟨67, 256, [.agg (S.map I)]⟩) 255 ⟨1, Z, rfl, by omega, hZ, ?_, ?_⟩ ?_
      · intro t ht
        rw [hZ0 t ht]
        split
        · have : t = 0 := by omega
          subst this; rfl
        · rfl
      · simp -implicitDefEqProofs (disch := omega) only [go_sem, ↓reduceIte, Nat.reduceEqDiff, Nat.reduceMul, Nat.reduceAdd, Nat.reduceDiv, Nat.reduceBEq, Nat.reduceLeDiff, Int.reduceToNat, Int.reduceNe, Int.reduceEq, Int.reduceLT, Int.reduceLE, Int.reduceBEq, Int.reduceBNe, ne_eq, not_true_eq_false, not_false_eq_true, decide_true, decide_false, List.length_map, hz, hZ]
        have e : uK b 1 = 0 := by
          have : ∀ n, sizeK 0 n = 0 := fun n => by
            induction n with
            | zero => rfl
            | succ n ih => rw [sizeK, ih, Nat.zero_testBit]; rfl
          rw [uK, uK, this]; split <;> rfl
        rw [e]; exact ⟨rfl, rfl⟩
      · rintro n E σ ⟨s, S, hs, hs1, hS, hall, h0, h4, h5, h6, mS⟩
        simp -implicitDefEqProofs (disch := omega) only [go_sem, ↓reduceIte, Nat.reduceEqDiff, Nat.reduceMul, Nat.reduceAdd, Nat.reduceDiv, Nat.reduceBEq, Nat.reduceLeDiff, Int.reduceToNat, Int.reduceNe, Int.reduceEq, Int.reduceLT, Int.reduceLE, Int.reduceBEq, Int.reduceBNe, ne_eq, not_true_eq_false, not_false_eq_true, decide_true, decide_false, List.length_map, h0, h4, h5, h6, mS]
        refine branch_mk (fun hlt => ?_) (fun hlt => ?_)
        · have hs8 : s < 256 := by omega
          simp -implicitDefEqProofs (disch := omega) only [go_sem, ↓reduceIte, Nat.reduceEqDiff, Nat.reduceMul, Nat.reduceAdd, Nat.reduceDiv, Nat.reduceBEq, Nat.reduceLeDiff, Int.reduceToNat, Int.reduceNe, Int.reduceEq, Int.reduceLT, Int.reduceLE, Int.reduceBEq, Int.reduceBNe, ne_eq, not_true_eq_false, not_false_eq_true, decide_true, decide_false, List.length_map, h0, h4, h5, h6, mS]
          refine loopC_mk (fun k E σ => ∃ c : Nat, c + k = 8 ∧ E 0 = SL b ∧ E 4 = .ptr 62914624 256 0 0 ∧ E 5 = I (uK b s) ∧ E 6 = I s ∧ E 7 = I (sumK b s c) ∧ E 8 = I (sizeK s c) ∧ E 9 = B (zeroK b s c) ∧ E 10 = I c ∧
            σ 62914624 = some ⟨67, 256, [.agg (S.map I)]⟩) 8 ⟨0, rfl, ?_⟩ ?_
          · simp -implicitDefEqProofs (disch := omega) only [go_sem, ↓reduceIte, Nat.reduceEqDiff, Nat.reduceMul, Nat.reduceAdd, Nat.reduceDiv, Nat.reduceBEq, Nat.reduceLeDiff, Int.reduceToNat, Int.reduceNe, Int.reduceEq, Int.reduceLT, Int.reduceLE, Int.reduceBEq, Int.reduceBNe, ne_eq, not_true_eq_false, not_false_eq_true, decide_true, decide_false, List.length_map, h0, h4, h5, h6, mS]
            exact ⟨rfl, rfl, rfl, rfl⟩
          · clear h0 h4 h5 h6 mS E σ
            rintro k E σ ⟨c, hc, h0, h4, h5, h6, h7, h8', h9, h10, mS⟩
            simp -implicitDefEqProofs (disch := omega) only [go_sem, ↓reduceIte, Nat.reduceEqDiff, Nat.reduceMul, Nat.reduceAdd, Nat.reduceDiv, Nat.reduceBEq, Nat.reduceLeDiff, Int.reduceToNat, Int.reduceNe, Int.reduceEq, Int.reduceLT, Int.reduceLE, Int.reduceBEq, Int.reduceBNe, ne_eq, not_true_eq_false, not_false_eq_true, decide_true, decide_false, List.length_map, h0, h4, h5, h6, h7, h8', h9, h10, mS]
            refine branch_mk (fun hc8 => ?_) (fun hc8 => ?_)
            · have ht := rem_test (s := s) (c := c) (by omega)
              have hsl := sumK_le b hr s c (by omega)
              have hbc := hr c (by omega)
              have hw : IntKind.i64.wrap (sumK b s c + gd b c) = sumK b s c + gd b c := wrap64_of (by omega)
              have hsz : sizeK s c ≤ 8 := by
                have : ∀ n, sizeK s n ≤ n := fun n => by
                  induction n with
                  | zero => exact Nat.le_refl _
                  | succ n ih => rw [sizeK]; split <;> omega
                have := this c; omega
              simp -implicitDefEqProofs (disch := omega) only [go_sem, ↓reduceIte, Nat.reduceEqDiff, Nat.reduceMul, Nat.reduceAdd, Nat.reduceDiv, Nat.reduceBEq, Nat.reduceLeDiff, Int.reduceToNat, Int.reduceNe, Int.reduceEq, Int.reduceLT, Int.reduceLE, Int.reduceBEq, Int.reduceBNe, ne_eq, not_true_eq_false, not_false_eq_true, decide_true, decide_false, List.length_map, h0, h4, h5, h6, h7, h8', h9, h10, mS]
              refine branch_mk (fun hbit => ?_) (fun hbit => ?_)
              · have hbit := ht.1 hbit
                have e1 : sumK b s (c + 1) = sumK b s c + gd b c := by rw [sumK, if_pos hbit]
                have e2 : sizeK s (c + 1) = sizeK s c + 1 := by rw [sizeK, if_pos hbit]
                have e3 : zeroK b s (c + 1) = (zeroK b s c || decide (gd b c = 0)) := by rw [zeroK, hbit, Bool.true_and]
                simp -implicitDefEqProofs (disch := omega) only [go_sem, ↓reduceIte, Nat.reduceEqDiff, Nat.reduceMul, Nat.reduceAdd, Nat.reduceDiv, Nat.reduceBEq, Nat.reduceLeDiff, Int.reduceToNat, Int.reduceNe, Int.reduceEq, Int.reduceLT, Int.reduceLE, Int.reduceBEq, Int.reduceBNe, ne_eq, not_true_eq_false, not_false_eq_true, decide_true, decide_false, List.length_map, h0, h4, h5, h6, h7, h8', h9, h10, mS, g8, hw]
                refine branch_mk (fun hzz => ?_) (fun hzz => ?_)
                · simp -implicitDefEqProofs (disch := omega) only [go_sem, ↓reduceIte, Nat.reduceEqDiff, Nat.reduceMul, Nat.reduceAdd, Nat.reduceDiv, Nat.reduceBEq, Nat.reduceLeDiff, Int.reduceToNat, Int.reduceNe, Int.reduceEq, Int.reduceLT, Int.reduceLE, Int.reduceBEq, Int.reduceBNe, ne_eq, not_true_eq_false, not_false_eq_true, decide_true, decide_false, List.length_map, h0, h4, h5, h6, h7, h8', h9, h10, mS, g8, hw]
                  refine againQ_mk (k - 1) (by omega) ⟨c + 1, by omega, ?_⟩
                  simp -implicitDefEqProofs (disch := omega) only [go_sem, ↓reduceIte, Nat.reduceEqDiff, Nat.reduceMul, Nat.reduceAdd, Nat.reduceDiv, Nat.reduceBEq, Nat.reduceLeDiff, Int.reduceToNat, Int.reduceNe, Int.reduceEq, Int.reduceLT, Int.reduceLE, Int.reduceBEq, Int.reduceBNe, ne_eq, not_true_eq_false, not_false_eq_true, decide_true, decide_false, List.length_map, h0, h4, h5, h6, h7, h8', h9, h10, mS, e1, e2, e3]
                  rw [hzz]; simp
                · have hzz : zeroK b s c = false := by simpa using hzz
                  simp -implicitDefEqProofs (disch := omega) only [go_sem, ↓reduceIte, Nat.reduceEqDiff, Nat.reduceMul, Nat.reduceAdd, Nat.reduceDiv, Nat.reduceBEq, Nat.reduceLeDiff, Int.reduceToNat, Int.reduceNe, Int.reduceEq, Int.reduceLT, Int.reduceLE, Int.reduceBEq, Int.reduceBNe, ne_eq, not_true_eq_false, not_false_eq_true, decide_true, decide_false, List.length_map, h0, h4, h5, h6, h7, h8', h9, h10, mS, g8, hw]
                  refine againQ_mk (k - 1) (by omega) ⟨c + 1, by omega, ?_⟩
                  simp -implicitDefEqProofs (disch := omega) only [go_sem, ↓reduceIte, Nat.reduceEqDiff, Nat.reduceMul, Nat.reduceAdd, Nat.reduceDiv, Nat.reduceBEq, Nat.reduceLeDiff, Int.reduceToNat, Int.reduceNe, Int.reduceEq, Int.reduceLT, Int.reduceLE, Int.reduceBEq, Int.reduceBNe, ne_eq, not_true_eq_false, not_false_eq_true, decide_true, decide_false, List.length_map, h0, h4, h5, h6, h7, h8', h9, h10, mS, e1, e2, e3]
                  rw [hzz]
                  refine ⟨by simp, ?_, by simp⟩
                  by_cases e : gd b c = 0 <;> simp [e]
              · have hbit : s.testBit c = false := by
                  cases h : s.testBit c with
                  | false => rfl
                  | true => exact absurd (ht.2 h) hbit
                have e1 : sumK b s (c + 1) = sumK b s c := by rw [sumK, hbit]; simp
                have e2 : sizeK s (c + 1) = sizeK s c := by rw [sizeK, hbit]; simp
                have e3 : zeroK b s (c + 1) = zeroK b s c := by rw [zeroK, hbit, Bool.false_and, Bool.or_false]
                simp -implicitDefEqProofs (disch := omega) only [go_sem, ↓reduceIte, Nat.reduceEqDiff, Nat.reduceMul, Nat.reduceAdd, Nat.reduceDiv, Nat.reduceBEq, Nat.reduceLeDiff, Int.reduceToNat, Int.reduceNe, Int.reduceEq, Int.reduceLT, Int.reduceLE, Int.reduceBEq, Int.reduceBNe, ne_eq, not_true_eq_false, not_false_eq_true, decide_true, decide_false, List.length_map, h0, h4, h5, h6, h7, h8', h9, h10, mS]
                refine againQ_mk (k - 1) (by omega) ⟨c + 1, by omega, ?_⟩
                simp -implicitDefEqProofs (disch := omega) only [go_sem, ↓reduceIte, Nat.reduceEqDiff, Nat.reduceMul, Nat.reduceAdd, Nat.reduceDiv, Nat.reduceBEq, Nat.reduceLeDiff, Int.reduceToNat, Int.reduceNe, Int.reduceEq, Int.reduceLT, Int.reduceLE, Int.reduceBEq, Int.reduceBNe, ne_eq, not_true_eq_false, not_false_eq_true, decide_true, decide_false, List.length_map, h0, h4, h5, h6, h7, h8', h9, h10, mS, e1, e2, e3]
                simp
            · have : c = 8 := by omega
              subst this
              simp -implicitDefEqProofs (disch := omega) only [go_sem, ↓reduceIte, Nat.reduceEqDiff, Nat.reduceMul, Nat.reduceAdd, Nat.reduceDiv, Nat.reduceBEq, Nat.reduceLeDiff, Int.reduceToNat, Int.reduceNe, Int.reduceEq, Int.reduceLT, Int.reduceLE, Int.reduceBEq, Int.reduceBNe, ne_eq, not_true_eq_false, not_false_eq_true, decide_true, decide_false, List.length_map, h0, h4, h5, h6, h7, h8', h9, h10, mS]
              refine branch_mk (fun hzz => ?_) (fun hzz => ?_)
              · simp -implicitDefEqProofs (disch := omega) only [go_sem, ↓reduceIte, Nat.reduceEqDiff, Nat.reduceMul, Nat.reduceAdd, Nat.reduceDiv, Nat.reduceBEq, Nat.reduceLeDiff, Int.reduceToNat, Int.reduceNe, Int.reduceEq, Int.reduceLT, Int.reduceLE, Int.reduceBEq, Int.reduceBNe, ne_eq, not_true_eq_false, not_false_eq_true, decide_true, decide_false, List.length_map, h0, h4, h5, h6, h7, h8', h9, h10, mS]
                have eu : uK b (s + 1) = uK b s := by rw [uK, if_pos hzz]
                refine againQ_mk (n - 1) (by omega) ⟨s + 1, S, by omega, by omega, hS, fun t ht => ?_, ?_⟩
                · rw [hall t ht]
                  by_cases e : t = s
                  · subst e; rw [if_neg (by omega), if_pos (by omega), dD_has b hzz]; rfl
                  · by_cases e2 : t < s
                    · rw [if_pos e2, if_pos (by omega)]
                    · rw [if_neg e2, if_neg (by omega)]
                · simp -implicitDefEqProofs (disch := omega) only [go_sem, ↓reduceIte, Nat.reduceEqDiff, Nat.reduceMul, Nat.reduceAdd, Nat.reduceDiv, Nat.reduceBEq, Nat.reduceLeDiff, Int.reduceToNat, Int.reduceNe, Int.reduceEq, Int.reduceLT, Int.reduceLE, Int.reduceBEq, Int.reduceBNe, ne_eq, not_true_eq_false, not_false_eq_true, decide_true, decide_false, List.length_map, h0, h4, h5, h6, h7, h8', h9, h10, mS, eu]
                  simp
              · have hzz : zeroK b s 8 = false := by simpa using hzz
                have eu : uK b (s + 1) = max (uK b s) (sizeK s 8) := by rw [uK, hzz]; rfl
                have eD := dD_eq b (s := s) (by omega) hs8 hzz
                have dle : ∀ t, t < 256 → dD b t ≤ 256 := fun t ht => by
                  have := dD_le hb ht
                  have := (settF_spec hb).2.2
                  have := nzK_le b 8
                  unfold nzF at *; omega
                have ule : uK b s ≤ 8 ∧ sizeK s 8 ≤ 8 := by
                  have : ∀ n, sizeK s n ≤ n := fun n => by
                    induction n with
                    | zero => exact Nat.le_refl _
                    | succ n ih => rw [sizeK]; split <;> omega
                  refine ⟨?_, this 8⟩
                  have h1 : ∀ n, uK b n ≤ 8 := fun n => by
                    induction n with
                    | zero => exact Nat.zero_le _
                    | succ n ih =>
                      rw [uK]
                      have : ∀ m, sizeK n m ≤ m := fun m => by
                        induction m with
                        | zero => exact Nat.le_refl _
                        | succ m ih => rw [sizeK]; split <;> omega
                      have := this 8
                      split <;> omega
                  exact h1 s
                simp -implicitDefEqProofs (disch := omega) only [go_sem, ↓reduceIte, Nat.reduceEqDiff, Nat.reduceMul, Nat.reduceAdd, Nat.reduceDiv, Nat.reduceBEq, Nat.reduceLeDiff, Int.reduceToNat, Int.reduceNe, Int.reduceEq, Int.reduceLT, Int.reduceLE, Int.reduceBEq, Int.reduceBNe, ne_eq, not_true_eq_false, not_false_eq_true, decide_true, decide_false, List.length_map, h0, h4, h5, h6, h7, h8', h9, h10, mS]
                refine loopC_mk (fun k E σ => ∃ (c : Nat) (S' : List Int), c + k = 8 ∧ S'.length = 256 ∧ (∀ t, t < 256 → gd S' t = if t = s then (dK (dD b) s c : Int) else gd S t) ∧ E 0 = SL b ∧ E 4 = .ptr 62914624 256 0 0 ∧ E 5 = I (uK b (s + 1)) ∧ E 6 = I s ∧ E 7 = I (sumM b s) ∧ E 11 = I c ∧
                  σ 62914624 = some ⟨67, 256, [.agg (S'.map I)]⟩) 8 ⟨0, S, rfl, hS, ?_, ?_⟩ ?_
                · intro t ht
                  split
                  · rename_i e; subst e; rw [hall t ht, if_neg (by omega)]; rfl
                  · rfl
                · simp -implicitDefEqProofs (disch := omega) only [go_sem, ↓reduceIte, Nat.reduceEqDiff, Nat.reduceMul, Nat.reduceAdd, Nat.reduceDiv, Nat.reduceBEq, Nat.reduceLeDiff, Int.reduceToNat, Int.reduceNe, Int.reduceEq, Int.reduceLT, Int.reduceLE, Int.reduceBEq, Int.reduceBNe, ne_eq, not_true_eq_false, not_false_eq_true, decide_true, decide_false, List.length_map, h0, h4, h5, h6, h7, h8', h9, h10, mS, eu]
                  exact ⟨by congr 2; omega, rfl, rfl⟩
                · clear h0 h4 h5 h6 h7 h8' h9 h10 mS E σ
                  rintro k E σ ⟨c, S', hc, hS', hall', h0, h4, h5, h6, h7, h11, mS⟩
                  simp -implicitDefEqProofs (disch := omega) only [go_sem, ↓reduceIte, Nat.reduceEqDiff, Nat.reduceMul, Nat.reduceAdd, Nat.reduceDiv, Nat.reduceBEq, Nat.reduceLeDiff, Int.reduceToNat, Int.reduceNe, Int.reduceEq, Int.reduceLT, Int.reduceLE, Int.reduceBEq, Int.reduceBNe, ne_eq, not_true_eq_false, not_false_eq_true, decide_true, decide_false, List.length_map, h0, h4, h5, h6, h7, h11, mS]
                  refine branch_mk (fun hc8 => ?_) (fun hc8 => ?_)
                  · have ht := rem_test (s := s) (c := c) (by omega)
                    simp -implicitDefEqProofs (disch := omega) only [go_sem, ↓reduceIte, Nat.reduceEqDiff, Nat.reduceMul, Nat.reduceAdd, Nat.reduceDiv, Nat.reduceBEq, Nat.reduceLeDiff, Int.reduceToNat, Int.reduceNe, Int.reduceEq, Int.reduceLT, Int.reduceLE, Int.reduceBEq, Int.reduceBNe, ne_eq, not_true_eq_false, not_false_eq_true, decide_true, decide_false, List.length_map, h0, h4, h5, h6, h7, h11, mS]
                    refine branch_mk (fun hbit => ?_) (fun hbit => ?_)
                    · have hbit := ht.1 hbit
                      have hge := Nat.ge_two_pow_of_testBit hbit
                      have hpos : 0 < 2 ^ c := Nat.two_pow_pos c
                      have e1 : IntKind.i64.wrap (1 * 2 ^ min c 64) = ((2 ^ c : Nat) : Int) := shl_min (by omega)
                      have e2 : IntKind.i64.wrap ((s : Int) - ((2 ^ c : Nat) : Int)) = ((s - 2 ^ c : Nat) : Int) := by rw [wrap64_of (by omega)]; omega
                      have e3 := hall' s hs8
                      rw [if_pos rfl] at e3
                      have e4 := hall' (s - 2 ^ c) (by omega)
                      rw [if_neg (by omega), hall _ (by omega), if_pos (by omega)] at e4
                      have e5 : dK (dD b) s (c + 1) = max (dK (dD b) s c) (dD b (s - 2 ^ c)) := by rw [dK, if_pos hbit]
                      simp -implicitDefEqProofs (disch := omega) only [go_sem, ↓reduceIte, Nat.reduceEqDiff, Nat.reduceMul, Nat.reduceAdd, Nat.reduceDiv, Nat.reduceBEq, Nat.reduceLeDiff, Int.reduceToNat, Int.reduceNe, Int.reduceEq, Int.reduceLT, Int.reduceLE, Int.reduceBEq, Int.reduceBNe, ne_eq, not_true_eq_false, not_false_eq_true, decide_true, decide_false, List.length_map, h0, h4, h5, h6, h7, h11, mS, hS', e1, e2, e3, e4]
                      refine againQ_mk (k - 1) (by omega) ⟨c + 1, S'.set s (max (dK (dD b) s c : Int) (dD b (s - 2 ^ c) : Int)), by omega, by simpa using hS', fun t ht => ?_, ?_⟩
                      · rw [gd_set _ _ _ _ (by omega)]
                        by_cases e : t = s
                        · rw [if_pos e, if_pos e, e5]; omega
                        · rw [if_neg e, if_neg e, hall' t ht, if_neg e]
                      · simp -implicitDefEqProofs (disch := omega) only [go_sem, ↓reduceIte, Nat.reduceEqDiff, Nat.reduceMul, Nat.reduceAdd, Nat.reduceDiv, Nat.reduceBEq, Nat.reduceLeDiff, Int.reduceToNat, Int.reduceNe, Int.reduceEq, Int.reduceLT, Int.reduceLE, Int.reduceBEq, Int.reduceBNe, ne_eq, not_true_eq_false, not_false_eq_true, decide_true, decide_false, List.length_map, h0, h4, h5, h6, h7, h11, mS, hS', e1, e2, e3, e4]
                        simp
                    · have hbit : s.testBit c = false := by
                        cases h : s.testBit c with
                        | false => rfl
                        | true => exact absurd (ht.2 h) hbit
                      have e5 : dK (dD b) s (c + 1) = dK (dD b) s c := by rw [dK, hbit]; rfl
                      simp -implicitDefEqProofs (disch := omega) only [go_sem, ↓reduceIte, Nat.reduceEqDiff, Nat.reduceMul, Nat.reduceAdd, Nat.reduceDiv, Nat.reduceBEq, Nat.reduceLeDiff, Int.reduceToNat, Int.reduceNe, Int.reduceEq, Int.reduceLT, Int.reduceLE, Int.reduceBEq, Int.reduceBNe, ne_eq, not_true_eq_false, not_false_eq_true, decide_true, decide_false, List.length_map, h0, h4, h5, h6, h7, h11, mS]
                      refine againQ_mk (k - 1) (by omega) ⟨c + 1, S', by omega, hS', by rw [e5]; exact hall', ?_⟩
                      simp -implicitDefEqProofs (disch := omega) only [go_sem, ↓reduceIte, Nat.reduceEqDiff, Nat.reduceMul, Nat.reduceAdd, Nat.reduceDiv, Nat.reduceBEq, Nat.reduceLeDiff, Int.reduceToNat, Int.reduceNe, Int.reduceEq, Int.reduceLT, Int.reduceLE, Int.reduceBEq, Int.reduceBNe, ne_eq, not_true_eq_false, not_false_eq_true, decide_true, decide_false, List.length_map, h0, h4, h5, h6, h7, h11, mS]
                      simp
                  · have : c = 8 := by omega
                    subst this
                    have e3 := hall' s hs8
                    rw [if_pos rfl] at e3
                    have hd8 := dle s hs8
                    simp -implicitDefEqProofs (disch := omega) only [go_sem, ↓reduceIte, Nat.reduceEqDiff, Nat.reduceMul, Nat.reduceAdd, Nat.reduceDiv, Nat.reduceBEq, Nat.reduceLeDiff, Int.reduceToNat, Int.reduceNe, Int.reduceEq, Int.reduceLT, Int.reduceLE, Int.reduceBEq, Int.reduceBNe, ne_eq, not_true_eq_false, not_false_eq_true, decide_true, decide_false, List.length_map, h0, h4, h5, h6, h7, h11, mS]
                    refine branch_mk (fun h00 => ?_) (fun h00 => ?_)
                    · rw [if_pos h00] at eD
                      have hw : IntKind.i64.wrap ((dK (dD b) s 8 : Int) + 1) = (dK (dD b) s 8 : Int) + 1 := wrap64_of (by omega)
                      simp -implicitDefEqProofs (disch := omega) only [go_sem, ↓reduceIte, Nat.reduceEqDiff, Nat.reduceMul, Nat.reduceAdd, Nat.reduceDiv, Nat.reduceBEq, Nat.reduceLeDiff, Int.reduceToNat, Int.reduceNe, Int.reduceEq, Int.reduceLT, Int.reduceLE, Int.reduceBEq, Int.reduceBNe, ne_eq, not_true_eq_false, not_false_eq_true, decide_true, decide_false, List.length_map, h0, h4, h5, h6, h7, h11, mS, hS', e3, hw]
                      refine againQ_mk (n - 1) (by omega) ⟨s + 1, S'.set s ((dK (dD b) s 8 : Int) + 1), by omega, by omega, by simpa using hS', fun t ht => ?_, ?_⟩
                      · rw [gd_set _ _ _ _ (by omega)]
                        by_cases e : t = s
                        · subst e; rw [if_pos rfl, if_pos (by omega), eD]; omega
                        · rw [if_neg e, hall' t ht, if_neg e, hall t ht]
                          by_cases e2 : t < s
                          · rw [if_pos e2, if_pos (by omega)]
                          · rw [if_neg e2, if_neg (by omega)]
                      · simp -implicitDefEqProofs (disch := omega) only [go_sem, ↓reduceIte, Nat.reduceEqDiff, Nat.reduceMul, Nat.reduceAdd, Nat.reduceDiv, Nat.reduceBEq, Nat.reduceLeDiff, Int.reduceToNat, Int.reduceNe, Int.reduceEq, Int.reduceLT, Int.reduceLE, Int.reduceBEq, Int.reduceBNe, ne_eq, not_true_eq_false, not_false_eq_true, decide_true, decide_false, List.length_map, h0, h4, h5, h6, h7, h11, mS, hS', e3, hw]
                        simp
                    · rw [if_neg h00, Nat.add_zero] at eD
                      simp -implicitDefEqProofs (disch := omega) only [go_sem, ↓reduceIte, Nat.reduceEqDiff, Nat.reduceMul, Nat.reduceAdd, Nat.reduceDiv, Nat.reduceBEq, Nat.reduceLeDiff, Int.reduceToNat, Int.reduceNe, Int.reduceEq, Int.reduceLT, Int.reduceLE, Int.reduceBEq, Int.reduceBNe, ne_eq, not_true_eq_false, not_false_eq_true, decide_true, decide_false, List.length_map, h0, h4, h5, h6, h7, h11, mS]
                      refine againQ_mk (n - 1) (by omega) ⟨s + 1, S', by omega, by omega, hS', fun t ht => ?_, ?_⟩
                      · rw [hall' t ht]
                        by_cases e : t = s
                        · subst e; rw [if_pos rfl, if_pos (by omega), eD]
                        · rw [if_neg e, hall t ht]
                          by_cases e2 : t < s
                          · rw [if_pos e2, if_pos (by omega)]
                          · rw [if_neg e2, if_neg (by omega)]
                      · simp -implicitDefEqProofs (disch := omega) only [go_sem, ↓reduceIte, Nat.reduceEqDiff, Nat.reduceMul, Nat.reduceAdd, Nat.reduceDiv, Nat.reduceBEq, Nat.reduceLeDiff, Int.reduceToNat, Int.reduceNe, Int.reduceEq, Int.reduceLT, Int.reduceLE, Int.reduceBEq, Int.reduceBNe, ne_eq, not_true_eq_false, not_false_eq_true, decide_true, decide_false, List.length_map, h0, h4, h5, h6, h7, h11, mS]
                        simp
        · have : s = 256 := by omega
          subst this
          simp -implicitDefEqProofs (disch := omega) only [go_sem, ↓reduceIte, Nat.reduceEqDiff, Nat.reduceMul, Nat.reduceAdd, Nat.reduceDiv, Nat.reduceBEq, Nat.reduceLeDiff, Int.reduceToNat, Int.reduceNe, Int.reduceEq, Int.reduceLT, Int.reduceLE, Int.reduceBEq, Int.reduceBNe, ne_eq, not_true_eq_false, not_false_eq_true, decide_true, decide_false, List.length_map, h0, h4, h5, h6, mS]
          have dle : ∀ t, t < 256 → dD b t ≤ 8 := fun t ht => by
            have := dD_le hb ht
            have := (settF_spec hb).2.2
            have := nzK_le b 8
            unfold nzF at *; omega
          refine loopC_mk (fun k E σ => ∃ s : Nat, s + k = 256 ∧ E 4 = .ptr 62914624 256 0 0 ∧ E 5 = I (uK b 256) ∧ E 12 = I (bK b s) ∧ E 13 = I s ∧ σ 62914624 = some ⟨67, 256, [.agg (S.map I)]⟩) 256 ⟨0, rfl, ?_⟩ ?_
          · simp -implicitDefEqProofs (disch := omega) only [go_sem, ↓reduceIte, Nat.reduceEqDiff, Nat.reduceMul, Nat.reduceAdd, Nat.reduceDiv, Nat.reduceBEq, Nat.reduceLeDiff, Int.reduceToNat, Int.reduceNe, Int.reduceEq, Int.reduceLT, Int.reduceLE, Int.reduceBEq, Int.reduceBNe, ne_eq, not_true_eq_false, not_false_eq_true, decide_true, decide_false, List.length_map, h0, h4, h5, h6, mS]
            exact ⟨rfl, rfl⟩
          · clear h0 h4 h5 h6 mS E σ
            rintro k E σ ⟨s, hs, h4, h5, h12, h13, mS⟩
            simp -implicitDefEqProofs (disch := omega) only [go_sem, ↓reduceIte, Nat.reduceEqDiff, Nat.reduceMul, Nat.reduceAdd, Nat.reduceDiv, Nat.reduceBEq, Nat.reduceLeDiff, Int.reduceToNat, Int.reduceNe, Int.reduceEq, Int.reduceLT, Int.reduceLE, Int.reduceBEq, Int.reduceBNe, ne_eq, not_true_eq_false, not_false_eq_true, decide_true, decide_false, List.length_map, h4, h5, h12, h13, mS]
            refine branch_mk (fun hc => ?_) (fun hc => ?_)
            · have e3 := hall s (by omega)
              rw [if_pos (by omega)] at e3
              simp -implicitDefEqProofs (disch := omega) only [go_sem, ↓reduceIte, Nat.reduceEqDiff, Nat.reduceMul, Nat.reduceAdd, Nat.reduceDiv, Nat.reduceBEq, Nat.reduceLeDiff, Int.reduceToNat, Int.reduceNe, Int.reduceEq, Int.reduceLT, Int.reduceLE, Int.reduceBEq, Int.reduceBNe, ne_eq, not_true_eq_false, not_false_eq_true, decide_true, decide_false, List.length_map, h4, h5, h12, h13, mS, hS, e3]
              refine againQ_mk (k - 1) (by omega) ⟨s + 1, by omega, ?_⟩
              simp -implicitDefEqProofs (disch := omega) only [go_sem, ↓reduceIte, Nat.reduceEqDiff, Nat.reduceMul, Nat.reduceAdd, Nat.reduceDiv, Nat.reduceBEq, Nat.reduceLeDiff, Int.reduceToNat, Int.reduceNe, Int.reduceEq, Int.reduceLT, Int.reduceLE, Int.reduceBEq, Int.reduceBNe, ne_eq, not_true_eq_false, not_false_eq_true, decide_true, decide_false, List.length_map, h4, h5, h12, h13, mS, bK]
              exact ⟨by congr 2; omega, by simp⟩
            · have : s = 256 := by omega
              subst this
              have hle := (settF_spec hb).2.2
              have h8'' := nzK_le b 8
              have hw : IntKind.i64.wrap ((uK b 256 : Int) - (bK b 256 : Int)) = (fewN b : Int) := by
                rw [uK_eq, bK_eq hb]
                unfold fewN nzF at *
                rw [wrap64_of (by omega)]; omega
              simp -implicitDefEqProofs (disch := omega) only [go_sem, ↓reduceIte, Nat.reduceEqDiff, Nat.reduceMul, Nat.reduceAdd, Nat.reduceDiv, Nat.reduceBEq, Nat.reduceLeDiff, Int.reduceToNat, Int.reduceNe, Int.reduceEq, Int.reduceLT, Int.reduceLE, Int.reduceBEq, Int.reduceBNe, ne_eq, not_true_eq_false, not_false_eq_true, decide_true, decide_false, List.length_map, h4, h5, h12, h13, mS, hw, Try.results29]
end Go.Proofs.Ytjbgckjcbmmobaa

/- The contracts of chapter 39: the chapter's examples hold. -/
set_option maxRecDepth 100000
set_option linter.unusedSimpArgs false
namespace Go.Proofs.Ytjbgckjcbmmobaa
open Go.Vai Go Go.Proofs

set_option maxHeartbeats 2000000 in
theorem sane_ev : Ev Try.prog 11 [] (B true) := by
  have h14 := bal_ev exL (by decide)
  rw [balR, if_pos ex_debts, ex_bal] at h14
  have h16 := Pairs_ev exL (by decide)
  rw [pairsT, if_pos ex_debts, ex_pairs] at h16
  have h18 := Cycle_ev exL (by decide)
  rw [cyF, if_pos ex_debts, ex_cyc, cycB] at h18
  have h20 := Round_ev exL (by decide)
  rw [roundT, if_pos ex_debts, ex_round] at h20
  have h28 := Fewest_ev exB (by decide)
  rw [fewT, if_pos ex_good.1, ex_few2] at h28
  have h30 := Settle_ev exB (by decide)
  rw [settR, if_pos ex_good.1] at h30
  have hs := settF_length ex_good.1
  rw [ex_few2] at hs
  have hck := settF_check ex_good.1
  generalize settF exB (usedF exB) = s at *
  have h31 := check_ev exB s (by decide) (by omega)
  rw [hck] at h31
  have hC := Fewest_ev exC (by decide)
  rw [fewT, if_pos ex_good.2.1, ex_few3] at hC
  have hD := Fewest_ev exD (by decide)
  rw [fewT, if_pos ex_good.2.2.1, ex_few4] at hD
  have hE := Fewest_ev [1, 0, 0, 0, 0, 0, 0, 0] (by decide)
  rw [fewT, ex_good.2.2.2] at hE
  have k1 := check_ev exB [(0, 2, 2), (0, 1, 3)] (by decide) (by decide)
  rw [ex_check1] at k1
  have k2 := check_ev exB [(0, 2, 5)] (by decide) (by decide)
  rw [ex_check2] at k2
  have v1 := valid_ev exL (by decide)
  rw [ex_debts] at v1
  have v2 := valid_ev [(0, 0, 0)] (by decide)
  rw [ex_bad] at v2
  have i1 := ints_ev exB exB (by decide) (by decide)
  have s1 := same_ev [(0, 1, 11), (1, 2, 8), (2, 0, 6)] [(0, 1, 11), (1, 2, 8), (2, 0, 6)] (by decide) (by decide)
  have i2 := ints_ev [0, 1, 2] [0, 1, 2] (by decide) (by decide)
  have s2 := same_ev [(0, 1, 5), (1, 2, 2)] [(0, 1, 5), (1, 2, 2)] (by decide) (by decide)
  rw [decide_eq_true rfl] at i1 s1 i2 s2
  refine ev_of Try.func11 rfl (by kernel_rfl) mo (Nat.le_of_ble_eq_true rfl) ?_
  simp -implicitDefEqProofs (disch := omega) only [go_sem, ↓reduceIte, Nat.reduceEqDiff, Nat.reduceMul, Nat.reduceAdd, Nat.reduceDiv, Nat.reduceBEq, Nat.reduceLeDiff, Int.reduceToNat, Int.reduceNe, Int.reduceEq, Int.reduceLT, Int.reduceLE, Int.reduceBEq, Int.reduceBNe, ne_eq, not_true_eq_false, not_false_eq_true, decide_true, decide_false, List.length_map, Try.ntmps11]
  refine callC_at h14 ?_
  simp -implicitDefEqProofs (disch := omega) only [go_sem, ↓reduceIte, Nat.reduceEqDiff, Nat.reduceMul, Nat.reduceAdd, Nat.reduceDiv, Nat.reduceBEq, Nat.reduceLeDiff, Int.reduceToNat, Int.reduceNe, Int.reduceEq, Int.reduceLT, Int.reduceLE, Int.reduceBEq, Int.reduceBNe, ne_eq, not_true_eq_false, not_false_eq_true, decide_true, decide_false, List.length_map]
  refine callC_at h16 ?_
  simp -implicitDefEqProofs (disch := omega) only [go_sem, ↓reduceIte, Nat.reduceEqDiff, Nat.reduceMul, Nat.reduceAdd, Nat.reduceDiv, Nat.reduceBEq, Nat.reduceLeDiff, Int.reduceToNat, Int.reduceNe, Int.reduceEq, Int.reduceLT, Int.reduceLE, Int.reduceBEq, Int.reduceBNe, ne_eq, not_true_eq_false, not_false_eq_true, decide_true, decide_false, List.length_map]
  refine callC_at h18 ?_
  simp -implicitDefEqProofs (disch := omega) only [go_sem, ↓reduceIte, Nat.reduceEqDiff, Nat.reduceMul, Nat.reduceAdd, Nat.reduceDiv, Nat.reduceBEq, Nat.reduceLeDiff, Int.reduceToNat, Int.reduceNe, Int.reduceEq, Int.reduceLT, Int.reduceLE, Int.reduceBEq, Int.reduceBNe, ne_eq, not_true_eq_false, not_false_eq_true, decide_true, decide_false, List.length_map]
  refine callC_at h20 ?_
  simp -implicitDefEqProofs (disch := omega) only [go_sem, ↓reduceIte, Nat.reduceEqDiff, Nat.reduceMul, Nat.reduceAdd, Nat.reduceDiv, Nat.reduceBEq, Nat.reduceLeDiff, Int.reduceToNat, Int.reduceNe, Int.reduceEq, Int.reduceLT, Int.reduceLE, Int.reduceBEq, Int.reduceBNe, ne_eq, not_true_eq_false, not_false_eq_true, decide_true, decide_false, List.length_map]
  refine callC_at h28 ?_
  simp -implicitDefEqProofs (disch := omega) only [go_sem, ↓reduceIte, Nat.reduceEqDiff, Nat.reduceMul, Nat.reduceAdd, Nat.reduceDiv, Nat.reduceBEq, Nat.reduceLeDiff, Int.reduceToNat, Int.reduceNe, Int.reduceEq, Int.reduceLT, Int.reduceLE, Int.reduceBEq, Int.reduceBNe, ne_eq, not_true_eq_false, not_false_eq_true, decide_true, decide_false, List.length_map]
  refine callC_at h30 ?_
  simp -implicitDefEqProofs (disch := omega) only [go_sem, ↓reduceIte, Nat.reduceEqDiff, Nat.reduceMul, Nat.reduceAdd, Nat.reduceDiv, Nat.reduceBEq, Nat.reduceLeDiff, Int.reduceToNat, Int.reduceNe, Int.reduceEq, Int.reduceLT, Int.reduceLE, Int.reduceBEq, Int.reduceBNe, ne_eq, not_true_eq_false, not_false_eq_true, decide_true, decide_false, List.length_map, hs]
  refine branch_r (by simp) ?_
  simp -implicitDefEqProofs (disch := omega) only [go_sem, ↓reduceIte, Nat.reduceEqDiff, Nat.reduceMul, Nat.reduceAdd, Nat.reduceDiv, Nat.reduceBEq, Nat.reduceLeDiff, Int.reduceToNat, Int.reduceNe, Int.reduceEq, Int.reduceLT, Int.reduceLE, Int.reduceBEq, Int.reduceBNe, ne_eq, not_true_eq_false, not_false_eq_true, decide_true, decide_false, List.length_map, hs]
  refine branch_r (by simp) ?_
  simp -implicitDefEqProofs (disch := omega) only [go_sem, ↓reduceIte, Nat.reduceEqDiff, Nat.reduceMul, Nat.reduceAdd, Nat.reduceDiv, Nat.reduceBEq, Nat.reduceLeDiff, Int.reduceToNat, Int.reduceNe, Int.reduceEq, Int.reduceLT, Int.reduceLE, Int.reduceBEq, Int.reduceBNe, ne_eq, not_true_eq_false, not_false_eq_true, decide_true, decide_false, List.length_map, hs]
  refine callC_at h31 ?_
  simp -implicitDefEqProofs (disch := omega) only [go_sem, ↓reduceIte, Nat.reduceEqDiff, Nat.reduceMul, Nat.reduceAdd, Nat.reduceDiv, Nat.reduceBEq, Nat.reduceLeDiff, Int.reduceToNat, Int.reduceNe, Int.reduceEq, Int.reduceLT, Int.reduceLE, Int.reduceBEq, Int.reduceBNe, ne_eq, not_true_eq_false, not_false_eq_true, decide_true, decide_false, List.length_map]
  refine callC_at hC ?_
  simp -implicitDefEqProofs (disch := omega) only [go_sem, ↓reduceIte, Nat.reduceEqDiff, Nat.reduceMul, Nat.reduceAdd, Nat.reduceDiv, Nat.reduceBEq, Nat.reduceLeDiff, Int.reduceToNat, Int.reduceNe, Int.reduceEq, Int.reduceLT, Int.reduceLE, Int.reduceBEq, Int.reduceBNe, ne_eq, not_true_eq_false, not_false_eq_true, decide_true, decide_false, List.length_map]
  refine callC_at hD ?_
  simp -implicitDefEqProofs (disch := omega) only [go_sem, ↓reduceIte, Nat.reduceEqDiff, Nat.reduceMul, Nat.reduceAdd, Nat.reduceDiv, Nat.reduceBEq, Nat.reduceLeDiff, Int.reduceToNat, Int.reduceNe, Int.reduceEq, Int.reduceLT, Int.reduceLE, Int.reduceBEq, Int.reduceBNe, ne_eq, not_true_eq_false, not_false_eq_true, decide_true, decide_false, List.length_map]
  refine callC_at hE ?_
  simp -implicitDefEqProofs (disch := omega) only [go_sem, ↓reduceIte, Nat.reduceEqDiff, Nat.reduceMul, Nat.reduceAdd, Nat.reduceDiv, Nat.reduceBEq, Nat.reduceLeDiff, Int.reduceToNat, Int.reduceNe, Int.reduceEq, Int.reduceLT, Int.reduceLE, Int.reduceBEq, Int.reduceBNe, ne_eq, not_true_eq_false, not_false_eq_true, decide_true, decide_false, List.length_map]
  refine callC_at i1 ?_
  simp -implicitDefEqProofs (disch := omega) only [go_sem, ↓reduceIte, Nat.reduceEqDiff, Nat.reduceMul, Nat.reduceAdd, Nat.reduceDiv, Nat.reduceBEq, Nat.reduceLeDiff, Int.reduceToNat, Int.reduceNe, Int.reduceEq, Int.reduceLT, Int.reduceLE, Int.reduceBEq, Int.reduceBNe, ne_eq, not_true_eq_false, not_false_eq_true, decide_true, decide_false, List.length_map]
  refine callC_at s1 ?_
  simp -implicitDefEqProofs (disch := omega) only [go_sem, ↓reduceIte, Nat.reduceEqDiff, Nat.reduceMul, Nat.reduceAdd, Nat.reduceDiv, Nat.reduceBEq, Nat.reduceLeDiff, Int.reduceToNat, Int.reduceNe, Int.reduceEq, Int.reduceLT, Int.reduceLE, Int.reduceBEq, Int.reduceBNe, ne_eq, not_true_eq_false, not_false_eq_true, decide_true, decide_false, List.length_map]
  refine callC_at i2 ?_
  simp -implicitDefEqProofs (disch := omega) only [go_sem, ↓reduceIte, Nat.reduceEqDiff, Nat.reduceMul, Nat.reduceAdd, Nat.reduceDiv, Nat.reduceBEq, Nat.reduceLeDiff, Int.reduceToNat, Int.reduceNe, Int.reduceEq, Int.reduceLT, Int.reduceLE, Int.reduceBEq, Int.reduceBNe, ne_eq, not_true_eq_false, not_false_eq_true, decide_true, decide_false, List.length_map]
  refine callC_at s2 ?_
  simp -implicitDefEqProofs (disch := omega) only [go_sem, ↓reduceIte, Nat.reduceEqDiff, Nat.reduceMul, Nat.reduceAdd, Nat.reduceDiv, Nat.reduceBEq, Nat.reduceLeDiff, Int.reduceToNat, Int.reduceNe, Int.reduceEq, Int.reduceLT, Int.reduceLE, Int.reduceBEq, Int.reduceBNe, ne_eq, not_true_eq_false, not_false_eq_true, decide_true, decide_false, List.length_map]
  refine callC_at k1 ?_
  simp -implicitDefEqProofs (disch := omega) only [go_sem, ↓reduceIte, Nat.reduceEqDiff, Nat.reduceMul, Nat.reduceAdd, Nat.reduceDiv, Nat.reduceBEq, Nat.reduceLeDiff, Int.reduceToNat, Int.reduceNe, Int.reduceEq, Int.reduceLT, Int.reduceLE, Int.reduceBEq, Int.reduceBNe, ne_eq, not_true_eq_false, not_false_eq_true, decide_true, decide_false, List.length_map]
  refine callC_at k2 ?_
  simp -implicitDefEqProofs (disch := omega) only [go_sem, ↓reduceIte, Nat.reduceEqDiff, Nat.reduceMul, Nat.reduceAdd, Nat.reduceDiv, Nat.reduceBEq, Nat.reduceLeDiff, Int.reduceToNat, Int.reduceNe, Int.reduceEq, Int.reduceLT, Int.reduceLE, Int.reduceBEq, Int.reduceBNe, ne_eq, not_true_eq_false, not_false_eq_true, decide_true, decide_false, List.length_map]
  refine branch_l (by simp) ?_
  simp -implicitDefEqProofs (disch := omega) only [go_sem, ↓reduceIte, Nat.reduceEqDiff, Nat.reduceMul, Nat.reduceAdd, Nat.reduceDiv, Nat.reduceBEq, Nat.reduceLeDiff, Int.reduceToNat, Int.reduceNe, Int.reduceEq, Int.reduceLT, Int.reduceLE, Int.reduceBEq, Int.reduceBNe, ne_eq, not_true_eq_false, not_false_eq_true, decide_true, decide_false, List.length_map]
  refine branch_l (by simp) ?_
  simp -implicitDefEqProofs (disch := omega) only [go_sem, ↓reduceIte, Nat.reduceEqDiff, Nat.reduceMul, Nat.reduceAdd, Nat.reduceDiv, Nat.reduceBEq, Nat.reduceLeDiff, Int.reduceToNat, Int.reduceNe, Int.reduceEq, Int.reduceLT, Int.reduceLE, Int.reduceBEq, Int.reduceBNe, ne_eq, not_true_eq_false, not_false_eq_true, decide_true, decide_false, List.length_map]
  refine callC_at v1 ?_
  simp -implicitDefEqProofs (disch := omega) only [go_sem, ↓reduceIte, Nat.reduceEqDiff, Nat.reduceMul, Nat.reduceAdd, Nat.reduceDiv, Nat.reduceBEq, Nat.reduceLeDiff, Int.reduceToNat, Int.reduceNe, Int.reduceEq, Int.reduceLT, Int.reduceLE, Int.reduceBEq, Int.reduceBNe, ne_eq, not_true_eq_false, not_false_eq_true, decide_true, decide_false, List.length_map]
  refine callC_at v2 ?_
  simp -implicitDefEqProofs (disch := omega) only [go_sem, ↓reduceIte, Nat.reduceEqDiff, Nat.reduceMul, Nat.reduceAdd, Nat.reduceDiv, Nat.reduceBEq, Nat.reduceLeDiff, Int.reduceToNat, Int.reduceNe, Int.reduceEq, Int.reduceLT, Int.reduceLE, Int.reduceBEq, Int.reduceBNe, ne_eq, not_true_eq_false, not_false_eq_true, decide_true, decide_false, List.length_map, Try.results11]
end Go.Proofs.Ytjbgckjcbmmobaa

/- The contracts of chapter 39: what is returned for valid debts and for balances. -/
set_option maxRecDepth 100000
set_option linter.unusedSimpArgs false
namespace Go.Proofs.Ytjbgckjcbmmobaa
open Go.Vai Go Go.Proofs

/-- What Settle and Fewest return for balances. -/
theorem settle_good {b : List Int} (hb : goodF b = true) : Ev Try.prog 30 [SL b] (.tup [.new 47 3 ((settF b (usedF b)).map DP), Er 0]) := by
  have h := Settle_ev b (by have := (good_rng hb).1; omega)
  rwa [settR, if_pos hb] at h
theorem fewest_good {b : List Int} (hb : goodF b = true) : Ev Try.prog 28 [SL b] (.tup [I (fewN b), Er 0]) := by
  have h := Fewest_ev b (by have := (good_rng hb).1; omega)
  rwa [fewT, if_pos hb] at h
/-- What the functions return for valid debts. -/
theorem bal_valid {l : List Deb} (h : debtsF l 1000000000 = true) : Ev Try.prog 14 [DL l] (.tup [.new 3 1 ((balF l).map I), Er 0]) := by
  have := bal_ev l (by have := ((debtsF_iff _ _).1 h).1; omega)
  rwa [balR, if_pos h] at this
theorem pairs_valid {l : List Deb} (h : debtsF l 1000000000 = true) : Ev Try.prog 16 [DL l] (.tup [.new 47 3 ((lstF (bookF l)).map DP), Er 0]) := by
  have := Pairs_ev l (by have := ((debtsF_iff _ _).1 h).1; omega)
  rwa [pairsT, if_pos h, ← lstF_book l h] at this
theorem round_valid {l : List Deb} (h : debtsF l 1000000000 = true) : Ev Try.prog 20 [DL l] (.tup [.new 47 3 ((lstF (rndF (bookF l))).map DP), Er 0]) := by
  have := Round_ev l (by have := ((debtsF_iff _ _).1 h).1; omega)
  rwa [roundT, if_pos h] at this
end Go.Proofs.Ytjbgckjcbmmobaa

/- Chapter 39: the frame of the statements. -/
set_option maxRecDepth 100000
set_option linter.unusedSimpArgs false
namespace Go.Proofs.Ytjbgckjcbmmobaa
open Go.Vai Go Go.Proofs

theorem own : ownKnob Try.checked.prog.godebug = none := by kernel_rfl
theorem laidOut : laidOutB Try.checked.prog = true := by kernel_rfl
section
variable {H : Type} {enc : TypeId × Value → H} {w : World}
def OI (a : AV) : Prop := ∃ n, R64 n ∧ a = I n
def OS (a : AV) : Prop := ∃ l : List Int, l.length ≤ 9223372036854775807 ∧ (∀ x ∈ l, R64 x) ∧ a = SL l
theorem wf64 {n : Int} : (Lit.int .i64 n).wf = true ↔ R64 n := by
  have h1 : IntKind.i64.min = -9223372036854775808 := by decide
  have h2 : IntKind.i64.max = 9223372036854775807 := by decide
  simp [Lit.wf, R64, h1, h2]
theorem o_int {t : TypeId} (ht : Try.prog.underlying t = some (.int .i64)) : Opens Try.prog enc w t OI :=
  (opens_int ht).mono (fun a ⟨n, h, e⟩ => ⟨n, wf64.1 h, e⟩) fun a ⟨n, h, e⟩ => ⟨n, wf64.2 h, e⟩
theorem o_ints : Opens Try.prog enc w 25 OS :=
  (opens_slice (T := Int) (q := R64) (f := I) (e := 3) (sz := 1) (by kernel_rfl) (by kernel_rfl) (by decide) (o_int (by kernel_rfl))).mono
    (fun a ⟨l, h, h1, e⟩ => ⟨l, h, h1, e⟩) fun a ⟨l, h, h1, e⟩ => ⟨l, h, h1, e⟩
def OT (a : AV) : Prop := ∃ x : Deb, (R64 x.1 ∧ R64 x.2.1 ∧ R64 x.2.2) ∧ a = DP x
theorem o_three : Opens Try.prog enc w 23 OT :=
  (opens_array (T := Int) (q := R64) (f := I) (e := 3) (n := 3) (sz := 1) (by kernel_rfl) (by kernel_rfl) (by kernel_rfl) (o_int (by kernel_rfl))).mono
    (fun a ⟨l, h, h1, e⟩ => by
      match l, h with
      | [x, y, z], _ => exact ⟨(x, y, z), ⟨h1 x (by simp), h1 y (by simp), h1 z (by simp)⟩, e⟩)
    fun a ⟨x, h, e⟩ => ⟨[x.1, x.2.1, x.2.2], rfl, by simp [h], e⟩
def OX (a : AV) : Prop := ∃ l : List Deb, l.length ≤ 9223372036854775807 ∧ (∀ x ∈ l, R64 x.1 ∧ R64 x.2.1 ∧ R64 x.2.2) ∧ a = DL l
theorem o_threes : Opens Try.prog enc w 22 OX :=
  (opens_slice (T := Deb) (q := fun x => R64 x.1 ∧ R64 x.2.1 ∧ R64 x.2.2) (f := DP) (e := 23) (sz := 3) (by kernel_rfl) (by kernel_rfl) (by decide) o_three).mono
    (fun a ⟨l, h, h1, e⟩ => ⟨l, h, h1, e⟩) fun a ⟨l, h, h1, e⟩ => ⟨l, h, h1, e⟩
theorem o_deb : Opens Try.prog enc w 47 OT :=
  (opens_struct (ps := [OI, OI, OI]) (Try.underlying47) ⟨o_int (by kernel_rfl), o_int (by kernel_rfl), o_int (by kernel_rfl), trivial⟩ (by kernel_rfl) (by kernel_rfl)).mono
    (fun a h => by
      obtain ⟨as', ha, rfl⟩ := h
      revert ha
      exact allP_3 (Q := fun l => OT (AV.agg (l.flatMap AV.cells))) (fun a b c ⟨n, h1, e1⟩ ⟨m, h2, e2⟩ ⟨k, h3, e3⟩ => ⟨(n, m, k), ⟨h1, h2, h3⟩, by subst e1; subst e2; subst e3; rfl⟩) as')
    fun a ⟨x, h, e⟩ => ⟨[I x.1, I x.2.1, I x.2.2], ⟨⟨x.1, h.1, rfl⟩, ⟨x.2.1, h.2.1, rfl⟩, ⟨x.2.2, h.2.2, rfl⟩, trivial⟩, e⟩
theorem o_debs : Opens Try.prog enc w 24 OX :=
  (opens_slice (T := Deb) (q := fun x => R64 x.1 ∧ R64 x.2.1 ∧ R64 x.2.2) (f := DP) (e := 47) (sz := 3) (by kernel_rfl) (by kernel_rfl) (by decide) o_deb).mono
    (fun a ⟨l, h, h1, e⟩ => ⟨l, h, h1, e⟩) fun a ⟨l, h, h1, e⟩ => ⟨l, h, h1, e⟩
end
end Go.Proofs.Ytjbgckjcbmmobaa

/- Chapter 39, second part -/
import Derived.Test.YtcllccpeechdhaaKG
set_option linter.unusedVariables false
set_option linter.unusedSimpArgs false
set_option maxRecDepth 100000
namespace Go.Proofs.Ytcllccpeechdhaa
open Go.Vai Go Go.Proofs
end Go.Proofs.Ytcllccpeechdhaa
set_option maxRecDepth 100000
namespace Go.Proofs.Ytcllccpeechdhaa
open Go.Vai Go Go.Proofs
abbrev P5 : List AV := [.ptr 54526032 1 0 0, .ptr 54526016 1 0 0, .ptr 54525968 1 0 0, .ptr 54526048 1 0 0]
abbrev L5 (q es : List Int) (n : Nat) (s : Int) : List (Nat × Blk) :=
  [(54526032, ⟨41, 1, [.own 54526033 1 0 n]⟩), (54526033, ⟨3, 1, es.map I⟩), (54526016, ⟨3, 1, [I s]⟩), (54525968, ⟨61, 1, [.pt (BK q) 0]⟩), (54526048, ⟨69, 1, [.clo 40 P5]⟩)]
abbrev pins5 : List Nat := [54526032, 54526016, 54525968, 54526048]
abbrev LK5 (q : List Int) (s : Int) (c : Int) (es : List Int) (n : Nat) (r : Bool) (es' : List Int) (n' : Nat) : Prop :=
  LOK Try.prog 40 (inI pins5) (I c :: P5) (stO (L5 q es n s)) (B r) (stO (L5 q es' n' s))
def foldS (f : Int → List Int → List Int) (c : Int) : Nat → List Int → List Int
  | 0, b => b
  | k + 1, b => foldS f (c + 1) k (f c b)
def leftG (W : Int → Int → Int) : Nat → List Int → List Int
  | 0, p => p
  | n + 1, p => foldS (fun c b => if 0 < W (gd p (p.length - 1)) c ∧ c ∉ p then leftG W n (p ++ [c]) else b) (gd p 0 + 1) (7 - gd p 0).toNat p
theorem foldS_inv {f : Int → List Int → List Int} {J : List Int → Prop} (h : ∀ c b, J b → J (f c b)) : ∀ (k : Nat) (c : Int) (b : List Int), J b → J (foldS f c k b)
  | 0, _, _, hb => hb
  | k + 1, c, b, hb => foldS_inv h k (c + 1) _ (h c b hb)
theorem leftG_take (W : Int → Int → Int) : ∀ (n : Nat) (p : List Int), (leftG W n p).take p.length = p ∧ (leftG W n p).length ≤ p.length + n
  | 0, p => by simp [leftG]
  | n + 1, p => by
    rw [leftG]
    refine foldS_inv (J := fun b => b.take p.length = p ∧ b.length ≤ p.length + (n + 1)) (fun c b hb => ?_) _ _ _ (by simp)
    split
    · have := leftG_take W n (p ++ [c])
      rw [List.length_append, List.length_singleton] at this
      refine ⟨?_, by omega⟩
      have e := congrArg (List.take p.length) this.1
      rw [List.take_take, Nat.min_eq_left (by omega), List.take_left'] at e
      · exact e
      · rfl
    · exact hb
abbrev IV5 (q : List Int) (s : Int) (c : Int) (es : List Int) (n : Nat) (v : Int) (E : Env) (σ : Store) : Prop :=
  E 0 = I c ∧ E 1 = .ptr 54526032 1 0 0 ∧ E 2 = .ptr 54526016 1 0 0 ∧ E 3 = .ptr 54525968 1 0 0 ∧ E 4 = .ptr 54526048 1 0 0 ∧ E 7 = I v ∧
  σ 54526032 = some ⟨41, 1, [.own 54526033 1 0 n]⟩ ∧ σ 54526033 = some ⟨3, 1, es.map I⟩ ∧ σ 54526016 = some ⟨3, 1, [I s]⟩ ∧ σ 54525968 = some ⟨61, 1, [.pt (BK q) 0]⟩ ∧ σ 54526048 = some ⟨69, 1, [.clo 40 P5]⟩
theorem ext5 (q : List Int) (hq : q.length = 64) (s : Nat) (hs : s ≤ 8) : ∀ (n : Nat) (p : List Int) (c : Int), PathOK (p ++ [c]) → p.length + 1 + n = s → ∀ es : List Int, es.take p.length = p → es.length ≤ 8 →
    match extF (bkF q) n (p ++ [c]) with
    | some r => LK5 q s c es p.length true r r.length
    | none => LK5 q s c es p.length false (leftG (bkF q) n (p ++ [c])) p.length := by
  intro n
  induction n with
  | zero =>
    intro p c hp hl es he h8
    have hc := hp.at p.length (by simp)
    have h0 := hp.at 0 (by simp)
    rw [gd_append_right _ _ _ (Nat.le_refl _), Nat.sub_self, gd_cons_zero] at hc
    have hpl : p.length ≤ es.length := by have := congrArg List.length he; simp at this; omega
    have hlast : gd (p ++ [c]) ((p ++ [c]).length - 1) = c := by rw [gd_append_right _ _ _ (by simp)]; simp
    rw [extF, hlast]
    by_cases hw : 0 < bkF q c (gd (p ++ [c]) 0)
    · rw [if_pos hw]
      refine lok_of pins5 Try.func40 rfl (by kernel_rfl) moN (Nat.le_of_ble_eq_true rfl) rfl (by kernel_rfl) (by kernel_rfl) ?_
      simp -implicitDefEqProofs (disch := omega) only [go_sem, ↓reduceIte, Nat.reduceEqDiff, Nat.reduceMul, Nat.reduceAdd, Nat.reduceDiv, Nat.reduceBEq, Nat.reduceLeDiff, Int.reduceToNat, Int.reduceNe, Int.reduceEq, Int.reduceLT, Int.reduceLE, Int.reduceBEq, Int.reduceBNe, ne_eq, not_true_eq_false, not_false_eq_true, decide_true, decide_false, List.length_map, Try.ntmps40, he]
      refine branch_l (by omega) ?_
      simp -implicitDefEqProofs (disch := omega) only [go_sem, ↓reduceIte, Nat.reduceEqDiff, Nat.reduceMul, Nat.reduceAdd, Nat.reduceDiv, Nat.reduceBEq, Nat.reduceLeDiff, Int.reduceToNat, Int.reduceNe, Int.reduceEq, Int.reduceLT, Int.reduceLE, Int.reduceBEq, Int.reduceBNe, ne_eq, not_true_eq_false, not_false_eq_true, decide_true, decide_false, List.length_map, he, hq]
      refine branch_l hw ?_
      simp -implicitDefEqProofs (disch := omega) only [go_sem, ↓reduceIte, Nat.reduceEqDiff, Nat.reduceMul, Nat.reduceAdd, Nat.reduceDiv, Nat.reduceBEq, Nat.reduceLeDiff, Int.reduceToNat, Int.reduceNe, Int.reduceEq, Int.reduceLT, Int.reduceLE, Int.reduceBEq, Int.reduceBNe, ne_eq, not_true_eq_false, not_false_eq_true, decide_true, decide_false, List.length_map, he, hq, Try.results40]
    · rw [if_neg hw, leftG]
      refine lok_of pins5 Try.func40 rfl (by kernel_rfl) moN (Nat.le_of_ble_eq_true rfl) rfl (by kernel_rfl) (by kernel_rfl) ?_
      simp -implicitDefEqProofs (disch := omega) only [go_sem, ↓reduceIte, Nat.reduceEqDiff, Nat.reduceMul, Nat.reduceAdd, Nat.reduceDiv, Nat.reduceBEq, Nat.reduceLeDiff, Int.reduceToNat, Int.reduceNe, Int.reduceEq, Int.reduceLT, Int.reduceLE, Int.reduceBEq, Int.reduceBNe, ne_eq, not_true_eq_false, not_false_eq_true, decide_true, decide_false, List.length_map, Try.ntmps40, he]
      refine branch_l (by omega) ?_
      simp -implicitDefEqProofs (disch := omega) only [go_sem, ↓reduceIte, Nat.reduceEqDiff, Nat.reduceMul, Nat.reduceAdd, Nat.reduceDiv, Nat.reduceBEq, Nat.reduceLeDiff, Int.reduceToNat, Int.reduceNe, Int.reduceEq, Int.reduceLT, Int.reduceLE, Int.reduceBEq, Int.reduceBNe, ne_eq, not_true_eq_false, not_false_eq_true, decide_true, decide_false, List.length_map, he, hq]
      refine branch_r hw ?_
      simp -implicitDefEqProofs (disch := omega) only [go_sem, ↓reduceIte, Nat.reduceEqDiff, Nat.reduceMul, Nat.reduceAdd, Nat.reduceDiv, Nat.reduceBEq, Nat.reduceLeDiff, Int.reduceToNat, Int.reduceNe, Int.reduceEq, Int.reduceLT, Int.reduceLE, Int.reduceBEq, Int.reduceBNe, ne_eq, not_true_eq_false, not_false_eq_true, decide_true, decide_false, List.length_map, he, hq]
      refine loopC_mk (fun k E σ => k = 0 ∧ IV5 q s c (p ++ [c]) (p.length + 1) (gd (p ++ [c]) 0 + 1) E σ) 0 ⟨rfl, ?_⟩ ?_
      · simp -implicitDefEqProofs (disch := omega) only [go_sem, ↓reduceIte, Nat.reduceEqDiff, Nat.reduceMul, Nat.reduceAdd, Nat.reduceDiv, Nat.reduceBEq, Nat.reduceLeDiff, Int.reduceToNat, Int.reduceNe, Int.reduceEq, Int.reduceLT, Int.reduceLE, Int.reduceBEq, Int.reduceBNe, ne_eq, not_true_eq_false, not_false_eq_true, decide_true, decide_false, List.length_map, he, hq, IV5]
      · rintro k E σ ⟨rfl, e0, e1, e2, e3, e4, e7, m1, m2, m3, m4, m5⟩
        simp -implicitDefEqProofs (disch := omega) only [go_sem, ↓reduceIte, Nat.reduceEqDiff, Nat.reduceMul, Nat.reduceAdd, Nat.reduceDiv, Nat.reduceBEq, Nat.reduceLeDiff, Int.reduceToNat, Int.reduceNe, Int.reduceEq, Int.reduceLT, Int.reduceLE, Int.reduceBEq, Int.reduceBNe, ne_eq, not_true_eq_false, not_false_eq_true, decide_true, decide_false, List.length_map, e0, e1, e2, e3, e4, e7, m1, m2, m3, m4, m5]
        refine branch_mk (fun hb => ?_) (fun hb => ?_)
        · simp -implicitDefEqProofs (disch := omega) only [go_sem, ↓reduceIte, Nat.reduceEqDiff, Nat.reduceMul, Nat.reduceAdd, Nat.reduceDiv, Nat.reduceBEq, Nat.reduceLeDiff, Int.reduceToNat, Int.reduceNe, Int.reduceEq, Int.reduceLT, Int.reduceLE, Int.reduceBEq, Int.reduceBNe, ne_eq, not_true_eq_false, not_false_eq_true, decide_true, decide_false, List.length_map, e0, e1, e2, e3, e4, e7, m1, m2, m3, m4, m5]
          refine branch_r (by omega) ?_
          simp -implicitDefEqProofs (disch := omega) only [go_sem, ↓reduceIte, Nat.reduceEqDiff, Nat.reduceMul, Nat.reduceAdd, Nat.reduceDiv, Nat.reduceBEq, Nat.reduceLeDiff, Int.reduceToNat, Int.reduceNe, Int.reduceEq, Int.reduceLT, Int.reduceLE, Int.reduceBEq, Int.reduceBNe, ne_eq, not_true_eq_false, not_false_eq_true, decide_true, decide_false, List.length_map, e0, e1, e2, e3, e4, e7, m1, m2, m3, m4, m5, Try.results40]
          rw [show ((p.length + 1 : Nat) - 1 : Int).toNat - 0 = p.length from by omega]
        · simp -implicitDefEqProofs (disch := omega) only [go_sem, ↓reduceIte, Nat.reduceEqDiff, Nat.reduceMul, Nat.reduceAdd, Nat.reduceDiv, Nat.reduceBEq, Nat.reduceLeDiff, Int.reduceToNat, Int.reduceNe, Int.reduceEq, Int.reduceLT, Int.reduceLE, Int.reduceBEq, Int.reduceBNe, ne_eq, not_true_eq_false, not_false_eq_true, decide_true, decide_false, List.length_map, e0, e1, e2, e3, e4, e7, m1, m2, m3, m4, m5, Try.results40]
          rw [show ((p.length + 1 : Nat) - 1 : Int).toNat - 0 = p.length from by omega]
  | succ n ih =>
    intro p c hp hl es he h8
    have hc := hp.at p.length (by simp)
    have h0 := hp.at 0 (by simp)
    rw [gd_append_right _ _ _ (Nat.le_refl _), Nat.sub_self, gd_cons_zero] at hc
    have hpl : p.length ≤ es.length := by have := congrArg List.length he; simp at this; omega
    have hlast : gd (p ++ [c]) ((p ++ [c]).length - 1) = c := by rw [gd_append_right _ _ _ (by simp)]; simp
    have hX : extF (bkF q) (n + 1) (p ++ [c]) = firstS (fun d => if 0 < bkF q c d ∧ d ∉ p ++ [c] then extF (bkF q) n (p ++ [c] ++ [d]) else none) (gd (p ++ [c]) 0 + 1) (7 - gd (p ++ [c]) 0).toNat := by rw [extF, hlast]
    have hG : leftG (bkF q) (n + 1) (p ++ [c]) = foldS (fun d b => if 0 < bkF q c d ∧ d ∉ p ++ [c] then leftG (bkF q) n (p ++ [c] ++ [d]) else b) (gd (p ++ [c]) 0 + 1) (7 - gd (p ++ [c]) 0).toNat (p ++ [c]) := by rw [leftG, hlast]
    have key : ∀ (r : Bool) (es' : List Int) (n' : Nat), ((∃ x, extF (bkF q) (n + 1) (p ++ [c]) = some x ∧ r = true ∧ es' = x ∧ n' = x.length) ∨ (extF (bkF q) (n + 1) (p ++ [c]) = none ∧ r = false ∧ es' = leftG (bkF q) (n + 1) (p ++ [c]) ∧ n' = p.length)) → LK5 q s c es p.length r es' n' := by
      intro r es' n' hr
      refine lok_of pins5 Try.func40 rfl (by kernel_rfl) moN (Nat.le_of_ble_eq_true rfl) rfl (by kernel_rfl) (by kernel_rfl) ?_
      simp -implicitDefEqProofs (disch := omega) only [go_sem, ↓reduceIte, Nat.reduceEqDiff, Nat.reduceMul, Nat.reduceAdd, Nat.reduceDiv, Nat.reduceBEq, Nat.reduceLeDiff, Int.reduceToNat, Int.reduceNe, Int.reduceEq, Int.reduceLT, Int.reduceLE, Int.reduceBEq, Int.reduceBNe, ne_eq, not_true_eq_false, not_false_eq_true, decide_true, decide_false, List.length_map, Try.ntmps40, he]
      refine branch_r (by omega) ?_
      simp -implicitDefEqProofs (disch := omega) only [go_sem, ↓reduceIte, Nat.reduceEqDiff, Nat.reduceMul, Nat.reduceAdd, Nat.reduceDiv, Nat.reduceBEq, Nat.reduceLeDiff, Int.reduceToNat, Int.reduceNe, Int.reduceEq, Int.reduceLT, Int.reduceLE, Int.reduceBEq, Int.reduceBNe, ne_eq, not_true_eq_false, not_false_eq_true, decide_true, decide_false, List.length_map, he, hq]
      refine loopC_mk (fun k E σ => ∃ (v : Int) (b : List Int), v + k = 8 ∧ gd (p ++ [c]) 0 < v ∧ b.take (p.length + 1) = p ++ [c] ∧ b.length ≤ 8 ∧ IV5 q s c b (p.length + 1) v E σ ∧
        extF (bkF q) (n + 1) (p ++ [c]) = firstS (fun d => if 0 < bkF q c d ∧ d ∉ p ++ [c] then extF (bkF q) n (p ++ [c] ++ [d]) else none) v k ∧
        leftG (bkF q) (n + 1) (p ++ [c]) = foldS (fun d b => if 0 < bkF q c d ∧ d ∉ p ++ [c] then leftG (bkF q) n (p ++ [c] ++ [d]) else b) v k b) (7 - gd (p ++ [c]) 0).toNat ⟨gd (p ++ [c]) 0 + 1, p ++ [c], by omega, by omega, ?_, ?_, ?_, hX, hG⟩ ?_
      · rw [List.take_of_length_le (by simp)]
      · rw [List.length_append, List.length_singleton]; omega
      · simp -implicitDefEqProofs (disch := omega) only [go_sem, ↓reduceIte, Nat.reduceEqDiff, Nat.reduceMul, Nat.reduceAdd, Nat.reduceDiv, Nat.reduceBEq, Nat.reduceLeDiff, Int.reduceToNat, Int.reduceNe, Int.reduceEq, Int.reduceLT, Int.reduceLE, Int.reduceBEq, Int.reduceBNe, ne_eq, not_true_eq_false, not_false_eq_true, decide_true, decide_false, List.length_map, he, hq, IV5]
      · rintro k E σ ⟨v, b, hvk, hv0, hb1, hb8, ⟨e0, e1, e2, e3, e4, e7, m1, m2, m3, m4, m5⟩, hx, hg⟩
        have hbl : p.length + 1 ≤ b.length := by have := congrArg List.length hb1; simp at this; omega
        simp -implicitDefEqProofs (disch := omega) only [go_sem, ↓reduceIte, Nat.reduceEqDiff, Nat.reduceMul, Nat.reduceAdd, Nat.reduceDiv, Nat.reduceBEq, Nat.reduceLeDiff, Int.reduceToNat, Int.reduceNe, Int.reduceEq, Int.reduceLT, Int.reduceLE, Int.reduceBEq, Int.reduceBNe, ne_eq, not_true_eq_false, not_false_eq_true, decide_true, decide_false, List.length_map, e0, e1, e2, e3, e4, e7, m1, m2, m3, m4, m5]
        refine branch_mk (fun hv => ?_) (fun hv => ?_)
        · obtain ⟨k, rfl⟩ : ∃ m, k = m + 1 := ⟨k - 1, by omega⟩
          rw [firstS] at hx
          rw [foldS] at hg
          simp -implicitDefEqProofs (disch := omega) only [go_sem, ↓reduceIte, Nat.reduceEqDiff, Nat.reduceMul, Nat.reduceAdd, Nat.reduceDiv, Nat.reduceBEq, Nat.reduceLeDiff, Int.reduceToNat, Int.reduceNe, Int.reduceEq, Int.reduceLT, Int.reduceLE, Int.reduceBEq, Int.reduceBNe, ne_eq, not_true_eq_false, not_false_eq_true, decide_true, decide_false, List.length_map, e0, e1, e2, e3, e4, e7, m1, m2, m3, m4, m5]
          refine branch_l (by omega) ?_
          simp -implicitDefEqProofs (disch := omega) only [go_sem, ↓reduceIte, Nat.reduceEqDiff, Nat.reduceMul, Nat.reduceAdd, Nat.reduceDiv, Nat.reduceBEq, Nat.reduceLeDiff, Int.reduceToNat, Int.reduceNe, Int.reduceEq, Int.reduceLT, Int.reduceLE, Int.reduceBEq, Int.reduceBNe, ne_eq, not_true_eq_false, not_false_eq_true, decide_true, decide_false, List.length_map, e0, e1, e2, e3, e4, e7, m1, m2, m3, m4, m5, hq]
          refine branch_mk (fun hw => ?_) (fun hw => ?_)
          · simp -implicitDefEqProofs (disch := omega) only [go_sem, ↓reduceIte, Nat.reduceEqDiff, Nat.reduceMul, Nat.reduceAdd, Nat.reduceDiv, Nat.reduceBEq, Nat.reduceLeDiff, Int.reduceToNat, Int.reduceNe, Int.reduceEq, Int.reduceLT, Int.reduceLE, Int.reduceBEq, Int.reduceBNe, ne_eq, not_true_eq_false, not_false_eq_true, decide_true, decide_false, List.length_map, e0, e1, e2, e3, e4, e7, m1, m2, m3, m4, m5, hb1, hbl]
            refine callC_at (containsI_ev (p ++ [c]) v (by rw [List.length_append, List.length_singleton]; omega)) ?_
            simp -implicitDefEqProofs (disch := omega) only [go_sem, ↓reduceIte, Nat.reduceEqDiff, Nat.reduceMul, Nat.reduceAdd, Nat.reduceDiv, Nat.reduceBEq, Nat.reduceLeDiff, Int.reduceToNat, Int.reduceNe, Int.reduceEq, Int.reduceLT, Int.reduceLE, Int.reduceBEq, Int.reduceBNe, ne_eq, not_true_eq_false, not_false_eq_true, decide_true, decide_false, List.length_map, e0, e1, e2, e3, e4, e7, m1, m2, m3, m4, m5, hb1]
            refine branch_mk (fun hm => ?_) (fun hm => ?_)
            · rw [if_pos ⟨hw, hm⟩] at hx hg
              simp -implicitDefEqProofs (disch := omega) only [go_sem, ↓reduceIte, Nat.reduceEqDiff, Nat.reduceMul, Nat.reduceAdd, Nat.reduceDiv, Nat.reduceBEq, Nat.reduceLeDiff, Int.reduceToNat, Int.reduceNe, Int.reduceEq, Int.reduceLT, Int.reduceLE, Int.reduceBEq, Int.reduceBNe, ne_eq, not_true_eq_false, not_false_eq_true, decide_true, decide_false, List.length_map, e0, e1, e2, e3, e4, e7, m1, m2, m3, m4, m5, hb1]
              refine callC_sem rfl ?_
              have hp' := hp.snoc (c := v) (by omega) (by omega) hm
              have hih := ih (p ++ [c]) v hp' (by rw [List.length_append, List.length_singleton]; omega) b (by rw [List.length_append, List.length_singleton]; exact hb1) hb8
              rw [List.length_append, List.length_singleton] at hih
              revert hx hih
              cases hxx : extF (bkF q) n (p ++ [c] ++ [v]) with
              | some x =>
                intro hx hih
                have hL : LOK Try.prog 40 (inI pins5) ([I v] ++ P5) (stO (L5 q b (p.length + 1) s)) (B true) (stO (L5 q x x.length s)) := hih
                refine lent_mk pins5 hL ?_ ?_ ?_ ?_ ?_ ?_ ?_
                · simp -implicitDefEqProofs (disch := omega) only [go_sem, ↓reduceIte, Nat.reduceEqDiff, Nat.reduceMul, Nat.reduceAdd, Nat.reduceDiv, Nat.reduceBEq, Nat.reduceLeDiff, Int.reduceToNat, Int.reduceNe, Int.reduceEq, Int.reduceLT, Int.reduceLE, Int.reduceBEq, Int.reduceBNe, ne_eq, not_true_eq_false, not_false_eq_true, decide_true, decide_false, List.length_map, e0, e1, e2, e3, e4, e7, m1, m2, m3, m4, m5, hb1, hbl]
                · simp -implicitDefEqProofs (disch := omega) only [go_sem, ↓reduceIte, Nat.reduceEqDiff, Nat.reduceMul, Nat.reduceAdd, Nat.reduceDiv, Nat.reduceBEq, Nat.reduceLeDiff, Int.reduceToNat, Int.reduceNe, Int.reduceEq, Int.reduceLT, Int.reduceLE, Int.reduceBEq, Int.reduceBNe, ne_eq, not_true_eq_false, not_false_eq_true, decide_true, decide_false, List.length_map, e0, e1, e2, e3, e4, e7, m1, m2, m3, m4, m5, hb1, hbl]
                · simp -implicitDefEqProofs (disch := omega) only [go_sem, ↓reduceIte, Nat.reduceEqDiff, Nat.reduceMul, Nat.reduceAdd, Nat.reduceDiv, Nat.reduceBEq, Nat.reduceLeDiff, Int.reduceToNat, Int.reduceNe, Int.reduceEq, Int.reduceLT, Int.reduceLE, Int.reduceBEq, Int.reduceBNe, ne_eq, not_true_eq_false, not_false_eq_true, decide_true, decide_false, List.length_map, e0, e1, e2, e3, e4, e7, m1, m2, m3, m4, m5, hb1, hbl]
                · simp -implicitDefEqProofs (disch := omega) only [go_sem, ↓reduceIte, Nat.reduceEqDiff, Nat.reduceMul, Nat.reduceAdd, Nat.reduceDiv, Nat.reduceBEq, Nat.reduceLeDiff, Int.reduceToNat, Int.reduceNe, Int.reduceEq, Int.reduceLT, Int.reduceLE, Int.reduceBEq, Int.reduceBNe, ne_eq, not_true_eq_false, not_false_eq_true, decide_true, decide_false, List.length_map, e0, e1, e2, e3, e4, e7, m1, m2, m3, m4, m5, hb1, hbl]
                · simp -implicitDefEqProofs (disch := omega) only [go_sem, ↓reduceIte, Nat.reduceEqDiff, Nat.reduceMul, Nat.reduceAdd, Nat.reduceDiv, Nat.reduceBEq, Nat.reduceLeDiff, Int.reduceToNat, Int.reduceNe, Int.reduceEq, Int.reduceLT, Int.reduceLE, Int.reduceBEq, Int.reduceBNe, ne_eq, not_true_eq_false, not_false_eq_true, decide_true, decide_false, List.length_map, e0, e1, e2, e3, e4, e7, m1, m2, m3, m4, m5, hb1, hbl]
                · simp -implicitDefEqProofs (disch := omega) only [go_sem, ↓reduceIte, Nat.reduceEqDiff, Nat.reduceMul, Nat.reduceAdd, Nat.reduceDiv, Nat.reduceBEq, Nat.reduceLeDiff, Int.reduceToNat, Int.reduceNe, Int.reduceEq, Int.reduceLT, Int.reduceLE, Int.reduceBEq, Int.reduceBNe, ne_eq, not_true_eq_false, not_false_eq_true, decide_true, decide_false, List.length_map, e0, e1, e2, e3, e4, e7, m1, m2, m3, m4, m5, hb1, hbl]
                · simp -implicitDefEqProofs (disch := omega) only [go_sem, ↓reduceIte, Nat.reduceEqDiff, Nat.reduceMul, Nat.reduceAdd, Nat.reduceDiv, Nat.reduceBEq, Nat.reduceLeDiff, Int.reduceToNat, Int.reduceNe, Int.reduceEq, Int.reduceLT, Int.reduceLE, Int.reduceBEq, Int.reduceBNe, ne_eq, not_true_eq_false, not_false_eq_true, decide_true, decide_false, List.length_map, e0, e1, e2, e3, e4, e7, m1, m2, m3, m4, m5, hb1, hbl, Try.results40]
                  rcases hr with ⟨y, h, rfl, rfl, rfl⟩ | ⟨h, _⟩
                  · rw [hx] at h; cases h; exact ⟨rfl, rfl, rfl⟩
                  · rw [hx] at h; cases h
              | none =>
                intro hx hih
                have hL : LOK Try.prog 40 (inI pins5) ([I v] ++ P5) (stO (L5 q b (p.length + 1) s)) (B false) (stO (L5 q (leftG (bkF q) n (p ++ [c] ++ [v])) (p.length + 1) s)) := hih
                have ht := leftG_take (bkF q) n (p ++ [c] ++ [v])
                have hlen : (p ++ [c] ++ [v]).length = p.length + 2 := by simp
                rw [hlen] at ht
                refine lent_mk pins5 hL ?_ ?_ ?_ ?_ ?_ ?_ ?_
                · simp -implicitDefEqProofs (disch := omega) only [go_sem, ↓reduceIte, Nat.reduceEqDiff, Nat.reduceMul, Nat.reduceAdd, Nat.reduceDiv, Nat.reduceBEq, Nat.reduceLeDiff, Int.reduceToNat, Int.reduceNe, Int.reduceEq, Int.reduceLT, Int.reduceLE, Int.reduceBEq, Int.reduceBNe, ne_eq, not_true_eq_false, not_false_eq_true, decide_true, decide_false, List.length_map, e0, e1, e2, e3, e4, e7, m1, m2, m3, m4, m5, hb1, hbl]
                · simp -implicitDefEqProofs (disch := omega) only [go_sem, ↓reduceIte, Nat.reduceEqDiff, Nat.reduceMul, Nat.reduceAdd, Nat.reduceDiv, Nat.reduceBEq, Nat.reduceLeDiff, Int.reduceToNat, Int.reduceNe, Int.reduceEq, Int.reduceLT, Int.reduceLE, Int.reduceBEq, Int.reduceBNe, ne_eq, not_true_eq_false, not_false_eq_true, decide_true, decide_false, List.length_map, e0, e1, e2, e3, e4, e7, m1, m2, m3, m4, m5, hb1, hbl]
                · simp -implicitDefEqProofs (disch := omega) only [go_sem, ↓reduceIte, Nat.reduceEqDiff, Nat.reduceMul, Nat.reduceAdd, Nat.reduceDiv, Nat.reduceBEq, Nat.reduceLeDiff, Int.reduceToNat, Int.reduceNe, Int.reduceEq, Int.reduceLT, Int.reduceLE, Int.reduceBEq, Int.reduceBNe, ne_eq, not_true_eq_false, not_false_eq_true, decide_true, decide_false, List.length_map, e0, e1, e2, e3, e4, e7, m1, m2, m3, m4, m5, hb1, hbl]
                · simp -implicitDefEqProofs (disch := omega) only [go_sem, ↓reduceIte, Nat.reduceEqDiff, Nat.reduceMul, Nat.reduceAdd, Nat.reduceDiv, Nat.reduceBEq, Nat.reduceLeDiff, Int.reduceToNat, Int.reduceNe, Int.reduceEq, Int.reduceLT, Int.reduceLE, Int.reduceBEq, Int.reduceBNe, ne_eq, not_true_eq_false, not_false_eq_true, decide_true, decide_false, List.length_map, e0, e1, e2, e3, e4, e7, m1, m2, m3, m4, m5, hb1, hbl]
                · simp -implicitDefEqProofs (disch := omega) only [go_sem, ↓reduceIte, Nat.reduceEqDiff, Nat.reduceMul, Nat.reduceAdd, Nat.reduceDiv, Nat.reduceBEq, Nat.reduceLeDiff, Int.reduceToNat, Int.reduceNe, Int.reduceEq, Int.reduceLT, Int.reduceLE, Int.reduceBEq, Int.reduceBNe, ne_eq, not_true_eq_false, not_false_eq_true, decide_true, decide_false, List.length_map, e0, e1, e2, e3, e4, e7, m1, m2, m3, m4, m5, hb1, hbl]
                · simp -implicitDefEqProofs (disch := omega) only [go_sem, ↓reduceIte, Nat.reduceEqDiff, Nat.reduceMul, Nat.reduceAdd, Nat.reduceDiv, Nat.reduceBEq, Nat.reduceLeDiff, Int.reduceToNat, Int.reduceNe, Int.reduceEq, Int.reduceLT, Int.reduceLE, Int.reduceBEq, Int.reduceBNe, ne_eq, not_true_eq_false, not_false_eq_true, decide_true, decide_false, List.length_map, e0, e1, e2, e3, e4, e7, m1, m2, m3, m4, m5, hb1, hbl]
                · simp -implicitDefEqProofs (disch := omega) only [go_sem, ↓reduceIte, Nat.reduceEqDiff, Nat.reduceMul, Nat.reduceAdd, Nat.reduceDiv, Nat.reduceBEq, Nat.reduceLeDiff, Int.reduceToNat, Int.reduceNe, Int.reduceEq, Int.reduceLT, Int.reduceLE, Int.reduceBEq, Int.reduceBNe, ne_eq, not_true_eq_false, not_false_eq_true, decide_true, decide_false, List.length_map, e0, e1, e2, e3, e4, e7, m1, m2, m3, m4, m5, hb1, hbl]
                  refine againQ_mk k (by omega) ⟨v + 1, leftG (bkF q) n (p ++ [c] ++ [v]), by omega, by omega, ?_, by omega, ?_, hx, hg⟩
                  · have e := congrArg (List.take (p.length + 1)) ht.1
                    rw [List.take_take, Nat.min_eq_left (by omega), List.take_left' (by simp)] at e
                    exact e
                  · simp -implicitDefEqProofs (disch := omega) only [go_sem, ↓reduceIte, Nat.reduceEqDiff, Nat.reduceMul, Nat.reduceAdd, Nat.reduceDiv, Nat.reduceBEq, Nat.reduceLeDiff, Int.reduceToNat, Int.reduceNe, Int.reduceEq, Int.reduceLT, Int.reduceLE, Int.reduceBEq, Int.reduceBNe, ne_eq, not_true_eq_false, not_false_eq_true, decide_true, decide_false, List.length_map, e0, e1, e2, e3, e4, e7, m1, m2, m3, m4, m5, IV5]
            · rw [if_neg (fun e => hm e.2)] at hx hg
              simp -implicitDefEqProofs (disch := omega) only [go_sem, ↓reduceIte, Nat.reduceEqDiff, Nat.reduceMul, Nat.reduceAdd, Nat.reduceDiv, Nat.reduceBEq, Nat.reduceLeDiff, Int.reduceToNat, Int.reduceNe, Int.reduceEq, Int.reduceLT, Int.reduceLE, Int.reduceBEq, Int.reduceBNe, ne_eq, not_true_eq_false, not_false_eq_true, decide_true, decide_false, List.length_map, e0, e1, e2, e3, e4, e7, m1, m2, m3, m4, m5]
              refine againQ_mk k (by omega) ⟨v + 1, b, by omega, by omega, hb1, hb8, ?_, hx, hg⟩
              simp -implicitDefEqProofs (disch := omega) only [go_sem, ↓reduceIte, Nat.reduceEqDiff, Nat.reduceMul, Nat.reduceAdd, Nat.reduceDiv, Nat.reduceBEq, Nat.reduceLeDiff, Int.reduceToNat, Int.reduceNe, Int.reduceEq, Int.reduceLT, Int.reduceLE, Int.reduceBEq, Int.reduceBNe, ne_eq, not_true_eq_false, not_false_eq_true, decide_true, decide_false, List.length_map, e0, e1, e2, e3, e4, e7, m1, m2, m3, m4, m5, IV5]
          · rw [if_neg (fun e => hw e.1)] at hx hg
            simp -implicitDefEqProofs (disch := omega) only [go_sem, ↓reduceIte, Nat.reduceEqDiff, Nat.reduceMul, Nat.reduceAdd, Nat.reduceDiv, Nat.reduceBEq, Nat.reduceLeDiff, Int.reduceToNat, Int.reduceNe, Int.reduceEq, Int.reduceLT, Int.reduceLE, Int.reduceBEq, Int.reduceBNe, ne_eq, not_true_eq_false, not_false_eq_true, decide_true, decide_false, List.length_map, e0, e1, e2, e3, e4, e7, m1, m2, m3, m4, m5]
            refine againQ_mk k (by omega) ⟨v + 1, b, by omega, by omega, hb1, hb8, ?_, hx, hg⟩
            simp -implicitDefEqProofs (disch := omega) only [go_sem, ↓reduceIte, Nat.reduceEqDiff, Nat.reduceMul, Nat.reduceAdd, Nat.reduceDiv, Nat.reduceBEq, Nat.reduceLeDiff, Int.reduceToNat, Int.reduceNe, Int.reduceEq, Int.reduceLT, Int.reduceLE, Int.reduceBEq, Int.reduceBNe, ne_eq, not_true_eq_false, not_false_eq_true, decide_true, decide_false, List.length_map, e0, e1, e2, e3, e4, e7, m1, m2, m3, m4, m5, IV5]
        · have : k = 0 := by omega
          subst this
          rw [firstS] at hx
          rw [foldS] at hg
          rcases hr with ⟨x, h, _⟩ | ⟨_, rfl, rfl, rfl⟩
          · rw [h] at hx; cases hx
          · simp -implicitDefEqProofs (disch := omega) only [go_sem, ↓reduceIte, Nat.reduceEqDiff, Nat.reduceMul, Nat.reduceAdd, Nat.reduceDiv, Nat.reduceBEq, Nat.reduceLeDiff, Int.reduceToNat, Int.reduceNe, Int.reduceEq, Int.reduceLT, Int.reduceLE, Int.reduceBEq, Int.reduceBNe, ne_eq, not_true_eq_false, not_false_eq_true, decide_true, decide_false, List.length_map, e0, e1, e2, e3, e4, e7, m1, m2, m3, m4, m5, Try.results40]
            rw [show ((p.length + 1 : Nat) - 1 : Int).toNat - 0 = p.length from by omega, hg]
            exact ⟨rfl, rfl⟩
    revert key
    cases extF (bkF q) (n + 1) (p ++ [c]) with
    | some x => intro key; exact key true x x.length (.inl ⟨x, rfl, rfl, rfl, rfl⟩)
    | none => intro key; exact key false _ _ (.inr ⟨rfl, rfl, rfl, rfl⟩)
end Go.Proofs.Ytcllccpeechdhaa
set_option maxRecDepth 100000
namespace Go.Proofs.Ytcllccpeechdhaa
open Go.Vai Go Go.Proofs
@[go_sem] theorem one_nilFunc : Value.nilFunc.oneCell' = true := rfl
def cycB (o : Option (List Int)) : AV := match o with
  | some q => .tup [.new 3 1 (q.map I), B true]
  | none => .tup [.new 3 1 [], B false]
theorem cyc_ev (q : List Int) (hq : q.length = 64) : Ev Try.prog 25 [.pt (BK q) 0] (cycB (cycF (bkF q))) := by
  refine ev_of Try.func25 rfl (by kernel_rfl) moN (Nat.le_of_ble_eq_true rfl) ?_
  simp -implicitDefEqProofs (disch := omega) only [go_sem, ↓reduceIte, Nat.reduceEqDiff, Nat.reduceMul, Nat.reduceAdd, Nat.reduceDiv, Nat.reduceBEq, Nat.reduceLeDiff, Int.reduceToNat, Int.reduceNe, Int.reduceEq, Int.reduceLT, Int.reduceLE, Int.reduceBEq, Int.reduceBNe, ne_eq, not_true_eq_false, not_false_eq_true, decide_true, decide_false, List.length_map, Try.ntmps25]
  refine loopC_mk (fun k E σ => ∃ s : Nat, s + k = 9 ∧ 3 ≤ s ∧ E 1 = .ptr 54525968 1 0 0 ∧ E 4 = .ptr 54526016 1 0 0 ∧ σ 54526016 = some ⟨3, 1, [I s]⟩ ∧ σ 54525968 = some ⟨61, 1, [.pt (BK q) 0]⟩ ∧
    cycF (bkF q) = cycN (bkF q) (s - 1) k) 6 ⟨3, by omega, by omega, ?_⟩ ?_
  · simp -implicitDefEqProofs (disch := omega) only [go_sem, ↓reduceIte, Nat.reduceEqDiff, Nat.reduceMul, Nat.reduceAdd, Nat.reduceDiv, Nat.reduceBEq, Nat.reduceLeDiff, Int.reduceToNat, Int.reduceNe, Int.reduceEq, Int.reduceLT, Int.reduceLE, Int.reduceBEq, Int.reduceBNe, ne_eq, not_true_eq_false, not_false_eq_true, decide_true, decide_false, List.length_map]
    exact ⟨rfl, rfl⟩
  · rintro k E σ ⟨s, hs, h3, h1, h4, m4, m1, hx⟩
    simp -implicitDefEqProofs (disch := omega) only [go_sem, ↓reduceIte, Nat.reduceEqDiff, Nat.reduceMul, Nat.reduceAdd, Nat.reduceDiv, Nat.reduceBEq, Nat.reduceLeDiff, Int.reduceToNat, Int.reduceNe, Int.reduceEq, Int.reduceLT, Int.reduceLE, Int.reduceBEq, Int.reduceBNe, ne_eq, not_true_eq_false, not_false_eq_true, decide_true, decide_false, List.length_map, h1, h4, m1, m4]
    refine branch_mk (fun hc => ?_) (fun hc => ?_)
    · obtain ⟨k, rfl⟩ : ∃ m, k = m + 1 := ⟨k - 1, by omega⟩
      rw [cycN] at hx
      simp -implicitDefEqProofs (disch := omega) only [go_sem, ↓reduceIte, Nat.reduceEqDiff, Nat.reduceMul, Nat.reduceAdd, Nat.reduceDiv, Nat.reduceBEq, Nat.reduceLeDiff, Int.reduceToNat, Int.reduceNe, Int.reduceEq, Int.reduceLT, Int.reduceLE, Int.reduceBEq, Int.reduceBNe, ne_eq, not_true_eq_false, not_false_eq_true, decide_true, decide_false, List.length_map, h1, h4, m1, m4]
      refine loopC_mk (fun j E σ => ∃ (c : Int) (es : List Int), c + j = 8 ∧ 0 ≤ c ∧ es.length ≤ 8 ∧ E 1 = .ptr 54525968 1 0 0 ∧ E 4 = .ptr 54526016 1 0 0 ∧ E 5 = .ptr 54526032 1 0 0 ∧ E 6 = .ptr 54526048 1 0 0 ∧ E 13 = I c ∧
        σ 54526032 = some ⟨41, 1, [.own 54526033 1 0 0]⟩ ∧ σ 54526033 = some ⟨3, 1, es.map I⟩ ∧ σ 54526016 = some ⟨3, 1, [I s]⟩ ∧ σ 54525968 = some ⟨61, 1, [.pt (BK q) 0]⟩ ∧ σ 54526048 = some ⟨69, 1, [.clo 40 P5]⟩ ∧
        sizeF (bkF q) (s - 1) = firstS (fun c => extF (bkF q) (s - 1) [c]) c j) 8 ⟨0, [], by omega, by omega, by simp, ?_⟩ ?_
      · simp -implicitDefEqProofs (disch := omega) only [go_sem, ↓reduceIte, Nat.reduceEqDiff, Nat.reduceMul, Nat.reduceAdd, Nat.reduceDiv, Nat.reduceBEq, Nat.reduceLeDiff, Int.reduceToNat, Int.reduceNe, Int.reduceEq, Int.reduceLT, Int.reduceLE, Int.reduceBEq, Int.reduceBNe, ne_eq, not_true_eq_false, not_false_eq_true, decide_true, decide_false, List.length_map, h1, h4, m1, m4]
        rfl
      · clear h1 h4 m1 m4 E σ
        rintro j E σ ⟨c, es, hj, hc0, he8, h1, h4, h5, h6, h13, m5, m5', m4, m1, m6, hy⟩
        simp -implicitDefEqProofs (disch := omega) only [go_sem, ↓reduceIte, Nat.reduceEqDiff, Nat.reduceMul, Nat.reduceAdd, Nat.reduceDiv, Nat.reduceBEq, Nat.reduceLeDiff, Int.reduceToNat, Int.reduceNe, Int.reduceEq, Int.reduceLT, Int.reduceLE, Int.reduceBEq, Int.reduceBNe, ne_eq, not_true_eq_false, not_false_eq_true, decide_true, decide_false, List.length_map, h1, h4, h5, h6, h13, m5, m5', m4, m1, m6]
        refine branch_mk (fun hc8 => ?_) (fun hc8 => ?_)
        · obtain ⟨j, rfl⟩ : ∃ m, j = m + 1 := ⟨j - 1, by omega⟩
          rw [firstS] at hy
          have hih := ext5 q hq s (by omega) (s - 1) [] c (pathOK_one hc0 (by omega)) (by simp; omega) es (by simp) he8
          simp -implicitDefEqProofs (disch := omega) only [go_sem, ↓reduceIte, Nat.reduceEqDiff, Nat.reduceMul, Nat.reduceAdd, Nat.reduceDiv, Nat.reduceBEq, Nat.reduceLeDiff, Int.reduceToNat, Int.reduceNe, Int.reduceEq, Int.reduceLT, Int.reduceLE, Int.reduceBEq, Int.reduceBNe, ne_eq, not_true_eq_false, not_false_eq_true, decide_true, decide_false, List.length_map, h1, h4, h5, h6, h13, m5, m5', m4, m1, m6]
          refine callC_sem rfl ?_
          revert hy hih
          rw [List.nil_append]
          cases hxx : extF (bkF q) (s - 1) [c] with
          | some x =>
            intro hy hih
            have hL : LOK Try.prog 40 (inI pins5) ([I c] ++ P5) (stO (L5 q es 0 s)) (B true) (stO (L5 q x x.length s)) := hih
            refine lent_mk pins5 hL ?_ ?_ ?_ ?_ ?_ ?_ ?_
            · simp -implicitDefEqProofs (disch := omega) only [go_sem, ↓reduceIte, Nat.reduceEqDiff, Nat.reduceMul, Nat.reduceAdd, Nat.reduceDiv, Nat.reduceBEq, Nat.reduceLeDiff, Int.reduceToNat, Int.reduceNe, Int.reduceEq, Int.reduceLT, Int.reduceLE, Int.reduceBEq, Int.reduceBNe, ne_eq, not_true_eq_false, not_false_eq_true, decide_true, decide_false, List.length_map, h1, h4, h5, h6, h13, m5, m5', m4, m1, m6]
            · simp -implicitDefEqProofs (disch := omega) only [go_sem, ↓reduceIte, Nat.reduceEqDiff, Nat.reduceMul, Nat.reduceAdd, Nat.reduceDiv, Nat.reduceBEq, Nat.reduceLeDiff, Int.reduceToNat, Int.reduceNe, Int.reduceEq, Int.reduceLT, Int.reduceLE, Int.reduceBEq, Int.reduceBNe, ne_eq, not_true_eq_false, not_false_eq_true, decide_true, decide_false, List.length_map, h1, h4, h5, h6, h13, m5, m5', m4, m1, m6]
            · simp -implicitDefEqProofs (disch := omega) only [go_sem, ↓reduceIte, Nat.reduceEqDiff, Nat.reduceMul, Nat.reduceAdd, Nat.reduceDiv, Nat.reduceBEq, Nat.reduceLeDiff, Int.reduceToNat, Int.reduceNe, Int.reduceEq, Int.reduceLT, Int.reduceLE, Int.reduceBEq, Int.reduceBNe, ne_eq, not_true_eq_false, not_false_eq_true, decide_true, decide_false, List.length_map, h1, h4, h5, h6, h13, m5, m5', m4, m1, m6]
            · simp -implicitDefEqProofs (disch := omega) only [go_sem, ↓reduceIte, Nat.reduceEqDiff, Nat.reduceMul, Nat.reduceAdd, Nat.reduceDiv, Nat.reduceBEq, Nat.reduceLeDiff, Int.reduceToNat, Int.reduceNe, Int.reduceEq, Int.reduceLT, Int.reduceLE, Int.reduceBEq, Int.reduceBNe, ne_eq, not_true_eq_false, not_false_eq_true, decide_true, decide_false, List.length_map, h1, h4, h5, h6, h13, m5, m5', m4, m1, m6]
            · simp -implicitDefEqProofs (disch := omega) only [go_sem, ↓reduceIte, Nat.reduceEqDiff, Nat.reduceMul, Nat.reduceAdd, Nat.reduceDiv, Nat.reduceBEq, Nat.reduceLeDiff, Int.reduceToNat, Int.reduceNe, Int.reduceEq, Int.reduceLT, Int.reduceLE, Int.reduceBEq, Int.reduceBNe, ne_eq, not_true_eq_false, not_false_eq_true, decide_true, decide_false, List.length_map, h1, h4, h5, h6, h13, m5, m5', m4, m1, m6]
            · simp -implicitDefEqProofs (disch := omega) only [go_sem, ↓reduceIte, Nat.reduceEqDiff, Nat.reduceMul, Nat.reduceAdd, Nat.reduceDiv, Nat.reduceBEq, Nat.reduceLeDiff, Int.reduceToNat, Int.reduceNe, Int.reduceEq, Int.reduceLT, Int.reduceLE, Int.reduceBEq, Int.reduceBNe, ne_eq, not_true_eq_false, not_false_eq_true, decide_true, decide_false, List.length_map, h1, h4, h5, h6, h13, m5, m5', m4, m1, m6]
            · simp -implicitDefEqProofs (disch := omega) only [go_sem, ↓reduceIte, Nat.reduceEqDiff, Nat.reduceMul, Nat.reduceAdd, Nat.reduceDiv, Nat.reduceBEq, Nat.reduceLeDiff, Int.reduceToNat, Int.reduceNe, Int.reduceEq, Int.reduceLT, Int.reduceLE, Int.reduceBEq, Int.reduceBNe, ne_eq, not_true_eq_false, not_false_eq_true, decide_true, decide_false, List.length_map, h1, h4, h5, h6, h13, m5, m5', m4, m1, m6, Try.results25]
              rw [hx, hy]; rfl
          | none =>
            intro hy hih
            have hL : LOK Try.prog 40 (inI pins5) ([I c] ++ P5) (stO (L5 q es 0 s)) (B false) (stO (L5 q (leftG (bkF q) (s - 1) [c]) 0 s)) := hih
            have ht := leftG_take (bkF q) (s - 1) [c]
            rw [List.length_singleton] at ht
            refine lent_mk pins5 hL ?_ ?_ ?_ ?_ ?_ ?_ ?_
            · simp -implicitDefEqProofs (disch := omega) only [go_sem, ↓reduceIte, Nat.reduceEqDiff, Nat.reduceMul, Nat.reduceAdd, Nat.reduceDiv, Nat.reduceBEq, Nat.reduceLeDiff, Int.reduceToNat, Int.reduceNe, Int.reduceEq, Int.reduceLT, Int.reduceLE, Int.reduceBEq, Int.reduceBNe, ne_eq, not_true_eq_false, not_false_eq_true, decide_true, decide_false, List.length_map, h1, h4, h5, h6, h13, m5, m5', m4, m1, m6]
            · simp -implicitDefEqProofs (disch := omega) only [go_sem, ↓reduceIte, Nat.reduceEqDiff, Nat.reduceMul, Nat.reduceAdd, Nat.reduceDiv, Nat.reduceBEq, Nat.reduceLeDiff, Int.reduceToNat, Int.reduceNe, Int.reduceEq, Int.reduceLT, Int.reduceLE, Int.reduceBEq, Int.reduceBNe, ne_eq, not_true_eq_false, not_false_eq_true, decide_true, decide_false, List.length_map, h1, h4, h5, h6, h13, m5, m5', m4, m1, m6]
            · simp -implicitDefEqProofs (disch := omega) only [go_sem, ↓reduceIte, Nat.reduceEqDiff, Nat.reduceMul, Nat.reduceAdd, Nat.reduceDiv, Nat.reduceBEq, Nat.reduceLeDiff, Int.reduceToNat, Int.reduceNe, Int.reduceEq, Int.reduceLT, Int.reduceLE, Int.reduceBEq, Int.reduceBNe, ne_eq, not_true_eq_false, not_false_eq_true, decide_true, decide_false, List.length_map, h1, h4, h5, h6, h13, m5, m5', m4, m1, m6]
            · simp -implicitDefEqProofs (disch := omega) only [go_sem, ↓reduceIte, Nat.reduceEqDiff, Nat.reduceMul, Nat.reduceAdd, Nat.reduceDiv, Nat.reduceBEq, Nat.reduceLeDiff, Int.reduceToNat, Int.reduceNe, Int.reduceEq, Int.reduceLT, Int.reduceLE, Int.reduceBEq, Int.reduceBNe, ne_eq, not_true_eq_false, not_false_eq_true, decide_true, decide_false, List.length_map, h1, h4, h5, h6, h13, m5, m5', m4, m1, m6]
            · simp -implicitDefEqProofs (disch := omega) only [go_sem, ↓reduceIte, Nat.reduceEqDiff, Nat.reduceMul, Nat.reduceAdd, Nat.reduceDiv, Nat.reduceBEq, Nat.reduceLeDiff, Int.reduceToNat, Int.reduceNe, Int.reduceEq, Int.reduceLT, Int.reduceLE, Int.reduceBEq, Int.reduceBNe, ne_eq, not_true_eq_false, not_false_eq_true, decide_true, decide_false, List.length_map, h1, h4, h5, h6, h13, m5, m5', m4, m1, m6]
            · simp -implicitDefEqProofs (disch := omega) only [go_sem, ↓reduceIte, Nat.reduceEqDiff, Nat.reduceMul, Nat.reduceAdd, Nat.reduceDiv, Nat.reduceBEq, Nat.reduceLeDiff, Int.reduceToNat, Int.reduceNe, Int.reduceEq, Int.reduceLT, Int.reduceLE, Int.reduceBEq, Int.reduceBNe, ne_eq, not_true_eq_false, not_false_eq_true, decide_true, decide_false, List.length_map, h1, h4, h5, h6, h13, m5, m5', m4, m1, m6]
            · simp -implicitDefEqProofs (disch := omega) only [go_sem, ↓reduceIte, Nat.reduceEqDiff, Nat.reduceMul, Nat.reduceAdd, Nat.reduceDiv, Nat.reduceBEq, Nat.reduceLeDiff, Int.reduceToNat, Int.reduceNe, Int.reduceEq, Int.reduceLT, Int.reduceLE, Int.reduceBEq, Int.reduceBNe, ne_eq, not_true_eq_false, not_false_eq_true, decide_true, decide_false, List.length_map, h1, h4, h5, h6, h13, m5, m5', m4, m1, m6]
              refine againQ_mk j (by omega) ⟨c + 1, leftG (bkF q) (s - 1) [c], by omega, by omega, by omega, ?_⟩
              simp -implicitDefEqProofs (disch := omega) only [go_sem, ↓reduceIte, Nat.reduceEqDiff, Nat.reduceMul, Nat.reduceAdd, Nat.reduceDiv, Nat.reduceBEq, Nat.reduceLeDiff, Int.reduceToNat, Int.reduceNe, Int.reduceEq, Int.reduceLT, Int.reduceLE, Int.reduceBEq, Int.reduceBNe, ne_eq, not_true_eq_false, not_false_eq_true, decide_true, decide_false, List.length_map, h1, h4, h5, h6, h13, m5, m5', m4, m1, m6]
              exact hy
        · have : j = 0 := by omega
          subst this
          rw [firstS] at hy
          rw [hy] at hx
          simp -implicitDefEqProofs (disch := omega) only [go_sem, ↓reduceIte, Nat.reduceEqDiff, Nat.reduceMul, Nat.reduceAdd, Nat.reduceDiv, Nat.reduceBEq, Nat.reduceLeDiff, Int.reduceToNat, Int.reduceNe, Int.reduceEq, Int.reduceLT, Int.reduceLE, Int.reduceBEq, Int.reduceBNe, ne_eq, not_true_eq_false, not_false_eq_true, decide_true, decide_false, List.length_map, h1, h4, h5, h6, h13, m5, m5', m4, m1, m6]
          refine againQ_mk k (by omega) ⟨s + 1, by omega, by omega, ?_⟩
          simp -implicitDefEqProofs (disch := omega) only [go_sem, ↓reduceIte, Nat.reduceEqDiff, Nat.reduceMul, Nat.reduceAdd, Nat.reduceDiv, Nat.reduceBEq, Nat.reduceLeDiff, Int.reduceToNat, Int.reduceNe, Int.reduceEq, Int.reduceLT, Int.reduceLE, Int.reduceBEq, Int.reduceBNe, ne_eq, not_true_eq_false, not_false_eq_true, decide_true, decide_false, List.length_map, h1, h4, h5, h6, h13, m5, m5', m4, m1, m6]
          refine ⟨by simp, ?_⟩
          rw [show s + 1 - 1 = s - 1 + 1 from by omega]; exact hx
    · have : k = 0 := by omega
      subst this
      simp -implicitDefEqProofs (disch := omega) only [go_sem, ↓reduceIte, Nat.reduceEqDiff, Nat.reduceMul, Nat.reduceAdd, Nat.reduceDiv, Nat.reduceBEq, Nat.reduceLeDiff, Int.reduceToNat, Int.reduceNe, Int.reduceEq, Int.reduceLT, Int.reduceLE, Int.reduceBEq, Int.reduceBNe, ne_eq, not_true_eq_false, not_false_eq_true, decide_true, decide_false, List.length_map, h1, h4, m1, m4, Try.results25]
      rw [hx, cycN, cycB]
end Go.Proofs.Ytcllccpeechdhaa
set_option maxRecDepth 100000
namespace Go.Proofs.Ytcllccpeechdhaa
open Go.Vai Go Go.Proofs
def cyF (l : List Deb) : Option (List Int) := if debtsF l 1000000000 = true then cycF (bkF (bookF l)) else none
theorem Cycle_ev (l : List Deb) (hl : l.length ≤ 9223372036854775807) : Ev Try.prog 15 [DL l] (cycB (cyF l)) := by
  refine ev_of Try.func15 rfl (by kernel_rfl) moN (Nat.le_of_ble_eq_true rfl) ?_
  simp -implicitDefEqProofs (disch := omega) only [go_sem, ↓reduceIte, Nat.reduceEqDiff, Nat.reduceMul, Nat.reduceAdd, Nat.reduceDiv, Nat.reduceBEq, Nat.reduceLeDiff, Int.reduceToNat, Int.reduceNe, Int.reduceEq, Int.reduceLT, Int.reduceLE, Int.reduceBEq, Int.reduceBNe, ne_eq, not_true_eq_false, not_false_eq_true, decide_true, decide_false, List.length_map, Try.ntmps15]
  refine callC_at (valid_evN l hl) ?_
  simp -implicitDefEqProofs (disch := omega) only [go_sem, ↓reduceIte, Nat.reduceEqDiff, Nat.reduceMul, Nat.reduceAdd, Nat.reduceDiv, Nat.reduceBEq, Nat.reduceLeDiff, Int.reduceToNat, Int.reduceNe, Int.reduceEq, Int.reduceLT, Int.reduceLE, Int.reduceBEq, Int.reduceBNe, ne_eq, not_true_eq_false, not_false_eq_true, decide_true, decide_false, List.length_map]
  refine branch_mk (fun hb => ?_) (fun hb => ?_)
  · simp -implicitDefEqProofs (disch := omega) only [go_sem, ↓reduceIte, Nat.reduceEqDiff, Nat.reduceMul, Nat.reduceAdd, Nat.reduceDiv, Nat.reduceBEq, Nat.reduceLeDiff, Int.reduceToNat, Int.reduceNe, Int.reduceEq, Int.reduceLT, Int.reduceLE, Int.reduceBEq, Int.reduceBNe, ne_eq, not_true_eq_false, not_false_eq_true, decide_true, decide_false, List.length_map, Try.results15]
    simp [cyF, cycB, hb]
  · have hb : debtsF l 1000000000 = true := by simpa using hb
    rw [cyF, if_pos hb]
    simp -implicitDefEqProofs (disch := omega) only [go_sem, ↓reduceIte, Nat.reduceEqDiff, Nat.reduceMul, Nat.reduceAdd, Nat.reduceDiv, Nat.reduceBEq, Nat.reduceLeDiff, Int.reduceToNat, Int.reduceNe, Int.reduceEq, Int.reduceLT, Int.reduceLE, Int.reduceBEq, Int.reduceBNe, ne_eq, not_true_eq_false, not_false_eq_true, decide_true, decide_false, List.length_map]
    refine callC_at (open_ev l hb) ?_
    simp -implicitDefEqProofs (disch := omega) only [go_sem, ↓reduceIte, Nat.reduceEqDiff, Nat.reduceMul, Nat.reduceAdd, Nat.reduceDiv, Nat.reduceBEq, Nat.reduceLeDiff, Int.reduceToNat, Int.reduceNe, Int.reduceEq, Int.reduceLT, Int.reduceLE, Int.reduceBEq, Int.reduceBNe, ne_eq, not_true_eq_false, not_false_eq_true, decide_true, decide_false, List.length_map]
    have hc := cyc_ev (bookF l) (bookF_length l)
    revert hc
    cases cycF (bkF (bookF l)) with
    | none =>
      intro hc
      rw [cycB] at hc
      refine callC_at hc ?_
      simp -implicitDefEqProofs (disch := omega) only [go_sem, ↓reduceIte, Nat.reduceEqDiff, Nat.reduceMul, Nat.reduceAdd, Nat.reduceDiv, Nat.reduceBEq, Nat.reduceLeDiff, Int.reduceToNat, Int.reduceNe, Int.reduceEq, Int.reduceLT, Int.reduceLE, Int.reduceBEq, Int.reduceBNe, ne_eq, not_true_eq_false, not_false_eq_true, decide_true, decide_false, List.length_map, Try.results15]
      rw [cycB]
    | some c =>
      intro hc
      rw [cycB] at hc
      refine callC_at hc ?_
      simp -implicitDefEqProofs (disch := omega) only [go_sem, ↓reduceIte, Nat.reduceEqDiff, Nat.reduceMul, Nat.reduceAdd, Nat.reduceDiv, Nat.reduceBEq, Nat.reduceLeDiff, Int.reduceToNat, Int.reduceNe, Int.reduceEq, Int.reduceLT, Int.reduceLE, Int.reduceBEq, Int.reduceBNe, ne_eq, not_true_eq_false, not_false_eq_true, decide_true, decide_false, List.length_map, Try.results15]
      rw [cycB]
end Go.Proofs.Ytcllccpeechdhaa
set_option maxRecDepth 100000
namespace Go.Proofs.Ytcllccpeechdhaa
open Go.Vai Go Go.Proofs
def roundT (l : List Deb) : AV := if debtsF l 1000000000 = true then .tup [.new 39 3 ((lstF (rndF (bookF l))).map DP), Er 0] else .tup [.new 39 3 [], Er 390]
theorem mod_next (i n : Nat) (h : i < n) : (((i : Int) + 1).tmod (n : Int)).toNat = (i + 1) % n := by
  rw [Int.tmod_eq_emod_of_nonneg (by omega), show (i : Int) + 1 = ((i + 1 : Nat) : Int) from by simp, ← Int.natCast_emod, Int.toNat_natCast]
theorem mod_next' (i n : Nat) (h : i < n) : 0 ≤ ((i : Int) + 1).tmod (n : Int) := by
  rw [Int.tmod_eq_emod_of_nonneg (by omega)]; exact Int.emod_nonneg _ (by omega)
theorem Round_ev (l : List Deb) (hl : l.length ≤ 9223372036854775807) : Ev Try.prog 11 [DL l] (roundT l) := by
  refine ev_of Try.func11 rfl (by kernel_rfl) moN (Nat.le_of_ble_eq_true rfl) ?_
  simp -implicitDefEqProofs (disch := omega) only [go_sem, ↓reduceIte, Nat.reduceEqDiff, Nat.reduceMul, Nat.reduceAdd, Nat.reduceDiv, Nat.reduceBEq, Nat.reduceLeDiff, Int.reduceToNat, Int.reduceNe, Int.reduceEq, Int.reduceLT, Int.reduceLE, Int.reduceBEq, Int.reduceBNe, ne_eq, not_true_eq_false, not_false_eq_true, decide_true, decide_false, List.length_map, Try.ntmps11]
  refine callC_at (valid_evN l hl) ?_
  simp -implicitDefEqProofs (disch := omega) only [go_sem, ↓reduceIte, Nat.reduceEqDiff, Nat.reduceMul, Nat.reduceAdd, Nat.reduceDiv, Nat.reduceBEq, Nat.reduceLeDiff, Int.reduceToNat, Int.reduceNe, Int.reduceEq, Int.reduceLT, Int.reduceLE, Int.reduceBEq, Int.reduceBNe, ne_eq, not_true_eq_false, not_false_eq_true, decide_true, decide_false, List.length_map]
  refine branch_mk (fun hb => ?_) (fun hb => ?_)
  · simp -implicitDefEqProofs (disch := omega) only [go_sem, ↓reduceIte, Nat.reduceEqDiff, Nat.reduceMul, Nat.reduceAdd, Nat.reduceDiv, Nat.reduceBEq, Nat.reduceLeDiff, Int.reduceToNat, Int.reduceNe, Int.reduceEq, Int.reduceLT, Int.reduceLE, Int.reduceBEq, Int.reduceBNe, ne_eq, not_true_eq_false, not_false_eq_true, decide_true, decide_false, List.length_map, Try.results11]
    simp [roundT, hb]
  · have hb : debtsF l 1000000000 = true := by simpa using hb
    rw [roundT, if_pos hb]
    simp -implicitDefEqProofs (disch := omega) only [go_sem, ↓reduceIte, Nat.reduceEqDiff, Nat.reduceMul, Nat.reduceAdd, Nat.reduceDiv, Nat.reduceBEq, Nat.reduceLeDiff, Int.reduceToNat, Int.reduceNe, Int.reduceEq, Int.reduceLT, Int.reduceLE, Int.reduceBEq, Int.reduceBNe, ne_eq, not_true_eq_false, not_false_eq_true, decide_true, decide_false, List.length_map]
    refine callC_at (open_ev l hb) ?_
    simp -implicitDefEqProofs (disch := omega) only [go_sem, ↓reduceIte, Nat.reduceEqDiff, Nat.reduceMul, Nat.reduceAdd, Nat.reduceDiv, Nat.reduceBEq, Nat.reduceLeDiff, Int.reduceToNat, Int.reduceNe, Int.reduceEq, Int.reduceLT, Int.reduceLE, Int.reduceBEq, Int.reduceBNe, ne_eq, not_true_eq_false, not_false_eq_true, decide_true, decide_false, List.length_map]
    refine loopC_mk (fun n E σ => ∃ q : List Int, posN q 64 = n ∧ Netted q ∧ rndF q = rndF (bookF l) ∧ E 4 = .ptr 25166080 64 0 0 ∧ σ 25166080 = some ⟨80, 64, [BK q]⟩) (posN (bookF l) 64) ⟨bookF l, rfl, bookF_netted l hb, rfl, ?_⟩ ?_
    · simp -implicitDefEqProofs (disch := omega) only [go_sem, ↓reduceIte, Nat.reduceEqDiff, Nat.reduceMul, Nat.reduceAdd, Nat.reduceDiv, Nat.reduceBEq, Nat.reduceLeDiff, Int.reduceToNat, Int.reduceNe, Int.reduceEq, Int.reduceLT, Int.reduceLE, Int.reduceBEq, Int.reduceBNe, ne_eq, not_true_eq_false, not_false_eq_true, decide_true, decide_false, List.length_map]
    · rintro n E σ ⟨q, hn, hq, hr, h4, m4⟩
      simp -implicitDefEqProofs (disch := omega) only [go_sem, ↓reduceIte, Nat.reduceEqDiff, Nat.reduceMul, Nat.reduceAdd, Nat.reduceDiv, Nat.reduceBEq, Nat.reduceLeDiff, Int.reduceToNat, Int.reduceNe, Int.reduceEq, Int.reduceLT, Int.reduceLE, Int.reduceBEq, Int.reduceBNe, ne_eq, not_true_eq_false, not_false_eq_true, decide_true, decide_false, List.length_map, h4, m4]
      have hc := cyc_ev q hq.len
      revert hc
      cases hx : cycF (bkF q) with
      | none =>
        intro hc
        rw [cycB] at hc
        refine callC_at hc ?_
        simp -implicitDefEqProofs (disch := omega) only [go_sem, ↓reduceIte, Nat.reduceEqDiff, Nat.reduceMul, Nat.reduceAdd, Nat.reduceDiv, Nat.reduceBEq, Nat.reduceLeDiff, Int.reduceToNat, Int.reduceNe, Int.reduceEq, Int.reduceLT, Int.reduceLE, Int.reduceBEq, Int.reduceBNe, ne_eq, not_true_eq_false, not_false_eq_true, decide_true, decide_false, List.length_map, h4, m4]
        have hlv : Ev Try.prog 26 [.pt (BK q) 0] (.new 39 3 ((lstF q).map DP)) := list_ev q hq.len hq.dia
        rw [← hr, rndF_none hx]
        generalize lstF q = L at hlv
        refine callC_at hlv ?_
        simp -implicitDefEqProofs (disch := omega) only [go_sem, ↓reduceIte, Nat.reduceEqDiff, Nat.reduceMul, Nat.reduceAdd, Nat.reduceDiv, Nat.reduceBEq, Nat.reduceLeDiff, Int.reduceToNat, Int.reduceNe, Int.reduceEq, Int.reduceLT, Int.reduceLE, Int.reduceBEq, Int.reduceBNe, ne_eq, not_true_eq_false, not_false_eq_true, decide_true, decide_false, List.length_map, h4, m4, Try.results11]
      | some c =>
        intro hc
        obtain ⟨hcy, hc3, hc8⟩ := cycF_some hx
        rw [cycB] at hc
        refine callC_at hc ?_
        simp -implicitDefEqProofs (disch := omega) only [go_sem, ↓reduceIte, Nat.reduceEqDiff, Nat.reduceMul, Nat.reduceAdd, Nat.reduceDiv, Nat.reduceBEq, Nat.reduceLeDiff, Int.reduceToNat, Int.reduceNe, Int.reduceEq, Int.reduceLT, Int.reduceLE, Int.reduceBEq, Int.reduceBNe, ne_eq, not_true_eq_false, not_false_eq_true, decide_true, decide_false, List.length_map, h4, m4]
        refine loopC_mk (fun k E σ => ∃ i : Nat, i + k = c.length ∧ E 4 = .ptr 25166080 64 0 0 ∧ E 5 = .own 25166128 1 0 c.length ∧ E 7 = I (leastN (bkF q) c i) ∧ E 26 = .own 25166128 1 0 c.length ∧ E 27 = I c.length ∧ E 28 = I i ∧
          σ 25166080 = some ⟨80, 64, [BK q]⟩ ∧ σ 25166128 = some ⟨3, 1, c.map I⟩) c.length ⟨0, by omega, ?_⟩ ?_
        · simp -implicitDefEqProofs (disch := omega) only [go_sem, ↓reduceIte, Nat.reduceEqDiff, Nat.reduceMul, Nat.reduceAdd, Nat.reduceDiv, Nat.reduceBEq, Nat.reduceLeDiff, Int.reduceToNat, Int.reduceNe, Int.reduceEq, Int.reduceLT, Int.reduceLE, Int.reduceBEq, Int.reduceBNe, ne_eq, not_true_eq_false, not_false_eq_true, decide_true, decide_false, List.length_map, h4, m4]
          exact ⟨rfl, rfl⟩
        · clear h4 m4 E σ
          rintro k E σ ⟨i, hi, h4, h5, h7, h26, h27, h28, m4, m5⟩
          simp -implicitDefEqProofs (disch := omega) only [go_sem, ↓reduceIte, Nat.reduceEqDiff, Nat.reduceMul, Nat.reduceAdd, Nat.reduceDiv, Nat.reduceBEq, Nat.reduceLeDiff, Int.reduceToNat, Int.reduceNe, Int.reduceEq, Int.reduceLT, Int.reduceLE, Int.reduceBEq, Int.reduceBNe, ne_eq, not_true_eq_false, not_false_eq_true, decide_true, decide_false, List.length_map, h4, h5, h7, h26, h27, h28, m4, m5]
          refine branch_mk (fun hlt => ?_) (fun hlt => ?_)
          · have ha := hcy.1.at i (by omega)
            have hbn := nxtF_in hcy.1 i
            have e1 := mod_next i c.length (by omega)
            have e2 := mod_next' i c.length (by omega)
            have e3 : (i + 1) % c.length < c.length := Nat.mod_lt _ (by omega)
            have hlen := hq.len
            unfold nxtF at hbn
            simp -implicitDefEqProofs (disch := omega) only [go_sem, ↓reduceIte, Nat.reduceEqDiff, Nat.reduceMul, Nat.reduceAdd, Nat.reduceDiv, Nat.reduceBEq, Nat.reduceLeDiff, Int.reduceToNat, Int.reduceNe, Int.reduceEq, Int.reduceLT, Int.reduceLE, Int.reduceBEq, Int.reduceBNe, ne_eq, not_true_eq_false, not_false_eq_true, decide_true, decide_false, List.length_map, h4, h5, h7, h26, h27, h28, m4, m5, e1, e2, e3, hlen]
            refine againQ_mk (k - 1) (by omega) ⟨i + 1, by omega, ?_⟩
            simp -implicitDefEqProofs (disch := omega) only [go_sem, ↓reduceIte, Nat.reduceEqDiff, Nat.reduceMul, Nat.reduceAdd, Nat.reduceDiv, Nat.reduceBEq, Nat.reduceLeDiff, Int.reduceToNat, Int.reduceNe, Int.reduceEq, Int.reduceLT, Int.reduceLE, Int.reduceBEq, Int.reduceBNe, ne_eq, not_true_eq_false, not_false_eq_true, decide_true, decide_false, List.length_map, h4, h5, h7, h26, h27, h28, m4, m5]
            exact ⟨rfl, by simp⟩
          · have : i = c.length := by omega
            subst this
            simp -implicitDefEqProofs (disch := omega) only [go_sem, ↓reduceIte, Nat.reduceEqDiff, Nat.reduceMul, Nat.reduceAdd, Nat.reduceDiv, Nat.reduceBEq, Nat.reduceLeDiff, Int.reduceToNat, Int.reduceNe, Int.reduceEq, Int.reduceLT, Int.reduceLE, Int.reduceBEq, Int.reduceBNe, ne_eq, not_true_eq_false, not_false_eq_true, decide_true, decide_false, List.length_map, h4, h5, h7, h26, h27, h28, m4, m5]
            refine loopC_mk (fun k E σ => ∃ i : Nat, i + k = c.length ∧ E 4 = .ptr 25166080 64 0 0 ∧ E 5 = .own 25166128 1 0 c.length ∧ E 7 = I (leastN (bkF q) c c.length) ∧ E 50 = .own 25166128 1 0 c.length ∧ E 51 = I c.length ∧ E 52 = I i ∧
              σ 25166080 = some ⟨80, 64, [BK (subN q c (leastN (bkF q) c c.length) i)]⟩ ∧ σ 25166128 = some ⟨3, 1, c.map I⟩) c.length ⟨0, by omega, ?_⟩ ?_
            · simp -implicitDefEqProofs (disch := omega) only [go_sem, ↓reduceIte, Nat.reduceEqDiff, Nat.reduceMul, Nat.reduceAdd, Nat.reduceDiv, Nat.reduceBEq, Nat.reduceLeDiff, Int.reduceToNat, Int.reduceNe, Int.reduceEq, Int.reduceLT, Int.reduceLE, Int.reduceBEq, Int.reduceBNe, ne_eq, not_true_eq_false, not_false_eq_true, decide_true, decide_false, List.length_map, h4, h5, h7, h26, h27, h28, m4, m5]
              exact ⟨rfl, rfl⟩
            · clear h4 h5 h7 h26 h27 h28 m4 m5 hi hlt E σ k
              rintro k E σ ⟨i, hi, h4, h5, h7, h50, h51, h52, m4, m5⟩
              simp -implicitDefEqProofs (disch := omega) only [go_sem, ↓reduceIte, Nat.reduceEqDiff, Nat.reduceMul, Nat.reduceAdd, Nat.reduceDiv, Nat.reduceBEq, Nat.reduceLeDiff, Int.reduceToNat, Int.reduceNe, Int.reduceEq, Int.reduceLT, Int.reduceLE, Int.reduceBEq, Int.reduceBNe, ne_eq, not_true_eq_false, not_false_eq_true, decide_true, decide_false, List.length_map, h4, h5, h7, h50, h51, h52, m4, m5]
              refine branch_mk (fun hlt => ?_) (fun hlt => ?_)
              · have ha := hcy.1.at i (by omega)
                have hbn := nxtF_in hcy.1 i
                have e1 := mod_next i c.length (by omega)
                have e2 := mod_next' i c.length (by omega)
                have e3 : (i + 1) % c.length < c.length := Nat.mod_lt _ (by omega)
                obtain ⟨hlen, hat⟩ := subN_at hq.len hcy.1 (leastN (bkF q) c c.length) i (by omega)
                have hat := hat (gd c i) (nxtF c i) ha.1 ha.2 hbn.1 hbn.2
                rw [edgeB_new hcy.1 (by omega)] at hat
                have hbk := hq.bk ha hbn
                have hp := leastN_pos (bkF q) c hcy.edge c.length (Nat.le_refl _)
                have hw : IntKind.i64.wrap (gd (subN q c (leastN (bkF q) c c.length) i) ((gd c i).toNat * 8 + (nxtF c i).toNat) - leastN (bkF q) c c.length) = gd (subN q c (leastN (bkF q) c c.length) i) ((gd c i).toNat * 8 + (nxtF c i).toNat) - leastN (bkF q) c c.length := by
                  refine wrap64_of ?_
                  unfold bkF at hat hbk
                  rw [hat]
                  simp only [Bool.false_eq_true, if_false]
                  omega
                have hset : subN q c (leastN (bkF q) c c.length) (i + 1) = (subN q c (leastN (bkF q) c c.length) i).set ((gd c i).toNat * 8 + (nxtF c i).toNat) (gd (subN q c (leastN (bkF q) c c.length) i) ((gd c i).toNat * 8 + (nxtF c i).toNat) - leastN (bkF q) c c.length) := rfl
                generalize subN q c (leastN (bkF q) c c.length) i = Q at *
                unfold nxtF at hbn hw hset
                simp -implicitDefEqProofs (disch := omega) only [go_sem, ↓reduceIte, Nat.reduceEqDiff, Nat.reduceMul, Nat.reduceAdd, Nat.reduceDiv, Nat.reduceBEq, Nat.reduceLeDiff, Int.reduceToNat, Int.reduceNe, Int.reduceEq, Int.reduceLT, Int.reduceLE, Int.reduceBEq, Int.reduceBNe, ne_eq, not_true_eq_false, not_false_eq_true, decide_true, decide_false, List.length_map, h4, h5, h7, h50, h51, h52, m4, m5, e1, e2, e3, hlen, hw]
                refine againQ_mk (k - 1) (by omega) ⟨i + 1, by omega, ?_⟩
                simp -implicitDefEqProofs (disch := omega) only [go_sem, ↓reduceIte, Nat.reduceEqDiff, Nat.reduceMul, Nat.reduceAdd, Nat.reduceDiv, Nat.reduceBEq, Nat.reduceLeDiff, Int.reduceToNat, Int.reduceNe, Int.reduceEq, Int.reduceLT, Int.reduceLE, Int.reduceBEq, Int.reduceBNe, ne_eq, not_true_eq_false, not_false_eq_true, decide_true, decide_false, List.length_map, h4, h5, h7, h50, h51, h52, m4, m5, hset]
                simp
              · have : i = c.length := by omega
                subst this
                simp -implicitDefEqProofs (disch := omega) only [go_sem, ↓reduceIte, Nat.reduceEqDiff, Nat.reduceMul, Nat.reduceAdd, Nat.reduceDiv, Nat.reduceBEq, Nat.reduceLeDiff, Int.reduceToNat, Int.reduceNe, Int.reduceEq, Int.reduceLT, Int.reduceLE, Int.reduceBEq, Int.reduceBNe, ne_eq, not_true_eq_false, not_false_eq_true, decide_true, decide_false, List.length_map, h4, h5, h7, h50, h51, h52, m4, m5]
                refine againQ_mk (posN (stepF q c) 64) (hn ▸ stepF_pos hq hcy) ⟨stepF q c, rfl, stepF_netted hq hcy, ?_, ?_⟩
                · rw [← hr, ← rndF_some hq hx]
                · simp -implicitDefEqProofs (disch := omega) only [go_sem, ↓reduceIte, Nat.reduceEqDiff, Nat.reduceMul, Nat.reduceAdd, Nat.reduceDiv, Nat.reduceBEq, Nat.reduceLeDiff, Int.reduceToNat, Int.reduceNe, Int.reduceEq, Int.reduceLT, Int.reduceLE, Int.reduceBEq, Int.reduceBNe, ne_eq, not_true_eq_false, not_false_eq_true, decide_true, decide_false, List.length_map, h4, h5, h7, h50, h51, h52, m4, m5]
                  rfl
end Go.Proofs.Ytcllccpeechdhaa
set_option maxRecDepth 100000
namespace Go.Proofs.Ytcllccpeechdhaa
open Go.Vai Go Go.Proofs
end Go.Proofs.Ytcllccpeechdhaa
set_option maxRecDepth 100000
namespace Go.Proofs.Ytcllccpeechdhaa
open Go.Vai Go Go.Proofs
theorem sel_ev (l : List Int) (s : Nat) (sg : Int) (c : Nat) (hl : l.length = 8) (hs : s < 256) (hsg : sg = 1 ∨ sg = -1) (hc : c < 8) (hr : ∀ i, i < 8 → -1000000000000 ≤ gd l i ∧ gd l i ≤ 1000000000000) :
    Ev Try.prog 31 [I c, .pt (I s) 0, .pt (I sg) 0, .pt (SL l) 0] (B (selB l s sg c)) := by
  have hw : IntKind.i64.wrap (sg * gd l c) = sg * gd l c := by
    have := hr c hc
    rcases hsg with rfl | rfl
    · exact wrap64_of (by omega)
    · exact wrap64_of (by omega)
  have e1 := bit_test (s := s) (c := c) (by omega) (by omega)
  refine ev_of Try.func31 rfl (by kernel_rfl) moN (Nat.le_of_ble_eq_true rfl) ?_
  simp -implicitDefEqProofs (disch := omega) only [go_sem, ↓reduceIte, Nat.reduceEqDiff, Nat.reduceMul, Nat.reduceAdd, Nat.reduceDiv, Nat.reduceBEq, Nat.reduceLeDiff, Int.reduceToNat, Int.reduceNe, Int.reduceEq, Int.reduceLT, Int.reduceLE, Int.reduceBEq, Int.reduceBNe, ne_eq, not_true_eq_false, not_false_eq_true, decide_true, decide_false, List.length_map, Try.ntmps31]
  refine branch_mk (fun hb => ?_) (fun hb => ?_)
  · simp -implicitDefEqProofs (disch := omega) only [go_sem, ↓reduceIte, Nat.reduceEqDiff, Nat.reduceMul, Nat.reduceAdd, Nat.reduceDiv, Nat.reduceBEq, Nat.reduceLeDiff, Int.reduceToNat, Int.reduceNe, Int.reduceEq, Int.reduceLT, Int.reduceLE, Int.reduceBEq, Int.reduceBNe, ne_eq, not_true_eq_false, not_false_eq_true, decide_true, decide_false, List.length_map, hl, hw, Try.results31]
    rw [selB, e1.1 hb]; simp
  · simp -implicitDefEqProofs (disch := omega) only [go_sem, ↓reduceIte, Nat.reduceEqDiff, Nat.reduceMul, Nat.reduceAdd, Nat.reduceDiv, Nat.reduceBEq, Nat.reduceLeDiff, Int.reduceToNat, Int.reduceNe, Int.reduceEq, Int.reduceLT, Int.reduceLE, Int.reduceBEq, Int.reduceBNe, ne_eq, not_true_eq_false, not_false_eq_true, decide_true, decide_false, List.length_map, hl, Try.results31]
    have hb : s.testBit c = false := by
      cases h : s.testBit c with
      | false => rfl
      | true => exact absurd (e1.2 h) hb
    rw [selB, hb]; simp
theorem indexF_ev (l : List Int) (s : Nat) (sg : Int) (hl : l.length = 8) (hs : s < 256) (hsg : sg = 1 ∨ sg = -1) (hr : ∀ i, i < 8 → -1000000000000 ≤ gd l i ∧ gd l i ≤ 1000000000000) :
    Ev Try.prog 30 [SL [0, 1, 2, 3, 4, 5, 6, 7], .clo 31 [.pt (I s) 0, .pt (I sg) 0, .pt (SL l) 0]] (I (selF l s sg 0 8)) := by
  refine ev_of Try.func30 rfl (by kernel_rfl) moN (Nat.le_of_ble_eq_true rfl) ?_
  have hg : ∀ v : Nat, v < 8 → gd [0, 1, 2, 3, 4, 5, 6, 7] v = (v : Int) := fun v hv => by
    have : v = 0 ∨ v = 1 ∨ v = 2 ∨ v = 3 ∨ v = 4 ∨ v = 5 ∨ v = 6 ∨ v = 7 := by omega
    rcases this with rfl | rfl | rfl | rfl | rfl | rfl | rfl | rfl <;> rfl
  have hq : ([0, 1, 2, 3, 4, 5, 6, 7] : List Int).length = 8 := rfl
  generalize ([0, 1, 2, 3, 4, 5, 6, 7] : List Int) = q at hg hq
  generalize hG : selF l s sg 0 8 = G
  simp -implicitDefEqProofs (disch := omega) only [go_sem, ↓reduceIte, Nat.reduceEqDiff, Nat.reduceMul, Nat.reduceAdd, Nat.reduceDiv, Nat.reduceBEq, Nat.reduceLeDiff, Int.reduceToNat, Int.reduceNe, Int.reduceEq, Int.reduceLT, Int.reduceLE, Int.reduceBEq, Int.reduceBNe, ne_eq, not_true_eq_false, not_false_eq_true, decide_true, decide_false, List.length_map, Try.ntmps30]
  refine loopC_mk (fun n E σ => ∃ v : Nat, v + n = 8 ∧ E 0 = SL q ∧ E 1 = .clo 31 [.pt (I s) 0, .pt (I sg) 0, .pt (SL l) 0] ∧ E 7 = I q.length ∧ E 8 = I v ∧ G = selF l s sg v n) 8 ⟨0, by omega, ?_⟩ ?_
  · simp -implicitDefEqProofs (disch := omega) only [go_sem, ↓reduceIte, Nat.reduceEqDiff, Nat.reduceMul, Nat.reduceAdd, Nat.reduceDiv, Nat.reduceBEq, Nat.reduceLeDiff, Int.reduceToNat, Int.reduceNe, Int.reduceEq, Int.reduceLT, Int.reduceLE, Int.reduceBEq, Int.reduceBNe, ne_eq, not_true_eq_false, not_false_eq_true, decide_true, decide_false, List.length_map]
    exact ⟨rfl, hG.symm⟩
  · rintro n E σ ⟨v, hv, h0, h1, h7, h8, hx⟩
    simp -implicitDefEqProofs (disch := omega) only [go_sem, ↓reduceIte, Nat.reduceEqDiff, Nat.reduceMul, Nat.reduceAdd, Nat.reduceDiv, Nat.reduceBEq, Nat.reduceLeDiff, Int.reduceToNat, Int.reduceNe, Int.reduceEq, Int.reduceLT, Int.reduceLE, Int.reduceBEq, Int.reduceBNe, ne_eq, not_true_eq_false, not_false_eq_true, decide_true, decide_false, List.length_map, h0, h1, h7, h8, hq]
    refine branch_mk (fun hc => ?_) (fun hc => ?_)
    · have hgv := hg v (by omega)
      obtain ⟨n, rfl⟩ : ∃ m, n = m + 1 := ⟨n - 1, by omega⟩
      rw [selF] at hx
      simp -implicitDefEqProofs (disch := omega) only [go_sem, ↓reduceIte, Nat.reduceEqDiff, Nat.reduceMul, Nat.reduceAdd, Nat.reduceDiv, Nat.reduceBEq, Nat.reduceLeDiff, Int.reduceToNat, Int.reduceNe, Int.reduceEq, Int.reduceLT, Int.reduceLE, Int.reduceBEq, Int.reduceBNe, ne_eq, not_true_eq_false, not_false_eq_true, decide_true, decide_false, List.length_map, h0, h1, h7, h8, hq, hgv]
      refine callC_at (sel_ev l s sg v hl hs hsg (by omega) hr) ?_
      simp -implicitDefEqProofs (disch := omega) only [go_sem, ↓reduceIte, Nat.reduceEqDiff, Nat.reduceMul, Nat.reduceAdd, Nat.reduceDiv, Nat.reduceBEq, Nat.reduceLeDiff, Int.reduceToNat, Int.reduceNe, Int.reduceEq, Int.reduceLT, Int.reduceLE, Int.reduceBEq, Int.reduceBNe, ne_eq, not_true_eq_false, not_false_eq_true, decide_true, decide_false, List.length_map, h0, h1, h7, h8, hq, hgv]
      refine branch_mk (fun hb => ?_) (fun hb => ?_)
      · rw [if_pos hb] at hx
        simp -implicitDefEqProofs (disch := omega) only [go_sem, ↓reduceIte, Nat.reduceEqDiff, Nat.reduceMul, Nat.reduceAdd, Nat.reduceDiv, Nat.reduceBEq, Nat.reduceLeDiff, Int.reduceToNat, Int.reduceNe, Int.reduceEq, Int.reduceLT, Int.reduceLE, Int.reduceBEq, Int.reduceBNe, ne_eq, not_true_eq_false, not_false_eq_true, decide_true, decide_false, List.length_map, h0, h1, h7, h8, hq, hgv, Try.results30]
        rw [hx]
      · rw [if_neg hb] at hx
        simp -implicitDefEqProofs (disch := omega) only [go_sem, ↓reduceIte, Nat.reduceEqDiff, Nat.reduceMul, Nat.reduceAdd, Nat.reduceDiv, Nat.reduceBEq, Nat.reduceLeDiff, Int.reduceToNat, Int.reduceNe, Int.reduceEq, Int.reduceLT, Int.reduceLE, Int.reduceBEq, Int.reduceBNe, ne_eq, not_true_eq_false, not_false_eq_true, decide_true, decide_false, List.length_map, h0, h1, h7, h8, hq, hgv]
        refine againQ_mk n (by omega) ⟨v + 1, by omega, ?_⟩
        simp -implicitDefEqProofs (disch := omega) only [go_sem, ↓reduceIte, Nat.reduceEqDiff, Nat.reduceMul, Nat.reduceAdd, Nat.reduceDiv, Nat.reduceBEq, Nat.reduceLeDiff, Int.reduceToNat, Int.reduceNe, Int.reduceEq, Int.reduceLT, Int.reduceLE, Int.reduceBEq, Int.reduceBNe, ne_eq, not_true_eq_false, not_false_eq_true, decide_true, decide_false, List.length_map, h0, h1, h7, h8, hq, hgv]
        exact ⟨by simp, hx⟩
    · have : n = 0 := by omega
      subst this
      simp -implicitDefEqProofs (disch := omega) only [go_sem, ↓reduceIte, Nat.reduceEqDiff, Nat.reduceMul, Nat.reduceAdd, Nat.reduceDiv, Nat.reduceBEq, Nat.reduceLeDiff, Int.reduceToNat, Int.reduceNe, Int.reduceEq, Int.reduceLT, Int.reduceLE, Int.reduceBEq, Int.reduceBNe, ne_eq, not_true_eq_false, not_false_eq_true, decide_true, decide_false, List.length_map, h0, h1, h7, h8, hq, Try.results30]
      rw [hx, selF]
theorem next_ev (l : List Int) (s : Nat) (sg : Int) (hl : l.length = 8) (hs : s < 256) (hsg : sg = 1 ∨ sg = -1) (hr : ∀ i, i < 8 → -1000000000000 ≤ gd l i ∧ gd l i ≤ 1000000000000) :
    Ev Try.prog 29 [I s, I sg, .pt (SL l) 0] (I (selF l s sg 0 8)) := by
  refine ev_of Try.func29 rfl (by kernel_rfl) moN (Nat.le_of_ble_eq_true rfl) ?_
  simp -implicitDefEqProofs (disch := omega) only [go_sem, ↓reduceIte, Nat.reduceEqDiff, Nat.reduceMul, Nat.reduceAdd, Nat.reduceDiv, Nat.reduceBEq, Nat.reduceLeDiff, Int.reduceToNat, Int.reduceNe, Int.reduceEq, Int.reduceLT, Int.reduceLE, Int.reduceBEq, Int.reduceBNe, ne_eq, not_true_eq_false, not_false_eq_true, decide_true, decide_false, List.length_map, Try.ntmps29]
  refine callC_at (indexF_ev l s sg hl hs hsg hr) ?_
  simp -implicitDefEqProofs (disch := omega) only [go_sem, ↓reduceIte, Nat.reduceEqDiff, Nat.reduceMul, Nat.reduceAdd, Nat.reduceDiv, Nat.reduceBEq, Nat.reduceLeDiff, Int.reduceToNat, Int.reduceNe, Int.reduceEq, Int.reduceLT, Int.reduceLE, Int.reduceBEq, Int.reduceBNe, ne_eq, not_true_eq_false, not_false_eq_true, decide_true, decide_false, List.length_map, Try.results29]
end Go.Proofs.Ytcllccpeechdhaa
set_option maxRecDepth 100000
namespace Go.Proofs.Ytcllccpeechdhaa
open Go.Vai Go Go.Proofs
abbrev YS (s : Nat) : List AV := [I (s : Int)]
@[go_sem] theorem namesL_sets (p : Nat → Bool) (l : List Nat) : AV.namesL p ((l.map YS).map .tup) = false := by
  rw [List.map_map]; exact namesL_map p l _ fun _ => rfl
theorem sets_ev (all c : Nat) : Ev Try.prog 55 [I all, I c] (.clo 63 [.nptr 3 1 [I all], .nptr 3 1 [I c]]) := by
  refine ev_of Try.func55 rfl (by kernel_rfl) moN (Nat.le_of_ble_eq_true rfl) ?_
  simp -implicitDefEqProofs (disch := omega) only [go_sem, ↓reduceIte, Nat.reduceEqDiff, Nat.reduceMul, Nat.reduceAdd, Nat.reduceDiv, Nat.reduceBEq, Nat.reduceLeDiff, Int.reduceToNat, Int.reduceNe, Int.reduceEq, Int.reduceLT, Int.reduceLE, Int.reduceBEq, Int.reduceBNe, ne_eq, not_true_eq_false, not_false_eq_true, decide_true, decide_false, List.length_map, Try.ntmps55, Try.results55]
theorem sets_sok (all c a b : Nat) (σ : Store) (h8 : all < 256) (hc : c < 8) (ha : σ a = some ⟨3, 1, [I all]⟩) (hb : σ b = some ⟨3, 1, [I c]⟩) (hA : a / 16 < 8388608 ∨ 9012896 ≤ a / 16) (hB : b / 16 < 8388608 ∨ 9012896 ≤ b / 16) :
    SOK Try.prog 63 [.ptr a 1 0 0, .ptr b 1 0 0] σ ((setsF all c).map YS) := by
  have e1 : IntKind.i64.wrap (1 * 2 ^ min c 64) = ((2 ^ c : Nat) : Int) := shl_min (by omega)
  have hp : 2 ^ c < 256 := Nat.lt_of_lt_of_le (Nat.pow_lt_pow_right (by omega) hc) (Nat.le_refl _)
  have e2 : bitsI .andNot .i64 (all : Int) ((2 ^ c : Nat) : Int) = ((lessN all (2 ^ c) : Nat) : Int) := andNot_nat (by omega) (by omega)
  have hl : lessN all (2 ^ c) < 256 := Nat.lt_of_le_of_lt (lessN_le _ _) h8
  unfold setsF
  generalize hR : lessN all (2 ^ c) = R at *
  refine sok_of Try.func63 rfl (by kernel_rfl) moN (Nat.le_of_ble_eq_true rfl) ?_ rfl fun l => ?_
  · exact namesL_sets allB _
  · simp -implicitDefEqProofs (disch := omega) only [go_sem, ↓reduceIte, Nat.reduceEqDiff, Nat.reduceMul, Nat.reduceAdd, Nat.reduceDiv, Nat.reduceBEq, Nat.reduceLeDiff, Int.reduceToNat, Int.reduceNe, Int.reduceEq, Int.reduceLT, Int.reduceLE, Int.reduceBEq, Int.reduceBNe, ne_eq, not_true_eq_false, not_false_eq_true, decide_true, decide_false, List.length_map, Try.ntmps63, ha, hb, e1, e2]
    refine loopC_mk (fun n E σ => ∃ s : Nat, s < n ∧ s < 256 ∧ E 0 = .yld l ∧ E 2 = .ptr b 1 0 0 ∧ E 4 = I R ∧ E 5 = I s ∧ E 26 = .tup ((((subsN R n s).map (· ||| 2 ^ c)).map YS).map .tup) ∧ σ b = some ⟨3, 1, [I c]⟩) 256 ⟨R, by omega, by omega, ?_⟩ ?_
    · simp -implicitDefEqProofs (disch := omega) only [go_sem, ↓reduceIte, Nat.reduceEqDiff, Nat.reduceMul, Nat.reduceAdd, Nat.reduceDiv, Nat.reduceBEq, Nat.reduceLeDiff, Int.reduceToNat, Int.reduceNe, Int.reduceEq, Int.reduceLT, Int.reduceLE, Int.reduceBEq, Int.reduceBNe, ne_eq, not_true_eq_false, not_false_eq_true, decide_true, decide_false, List.length_map, ha, hb]
    · clear ha hb σ
      rintro n E σ ⟨s, hn, hs8, h0, h2, h4, h5, h26, hb⟩
      obtain ⟨m, rfl⟩ : ∃ m, n = m + 1 := ⟨n - 1, by omega⟩
      have e3 : bitsI .or .i64 (s : Int) ((2 ^ c : Nat) : Int) = ((s ||| 2 ^ c : Nat) : Int) := or_nat (by omega) (by omega)
      by_cases h0s : s = 0
      · subst h0s
        rw [subsN, if_pos rfl] at h26
        simp -implicitDefEqProofs (disch := omega) only [go_sem, ↓reduceIte, Nat.reduceEqDiff, Nat.reduceMul, Nat.reduceAdd, Nat.reduceDiv, Nat.reduceBEq, Nat.reduceLeDiff, Int.reduceToNat, Int.reduceNe, Int.reduceEq, Int.reduceLT, Int.reduceLE, Int.reduceBEq, Int.reduceBNe, ne_eq, not_true_eq_false, not_false_eq_true, decide_true, decide_false, List.length_map, h0, h2, h4, h5, h26, hb, e1, e3]
        refine ⟨branch_l (by omega) ?_, ?_⟩
        · simp -implicitDefEqProofs (disch := omega) only [go_sem, ↓reduceIte, Nat.reduceEqDiff, Nat.reduceMul, Nat.reduceAdd, Nat.reduceDiv, Nat.reduceBEq, Nat.reduceLeDiff, Int.reduceToNat, Int.reduceNe, Int.reduceEq, Int.reduceLT, Int.reduceLE, Int.reduceBEq, Int.reduceBNe, ne_eq, not_true_eq_false, not_false_eq_true, decide_true, decide_false, List.length_map, h0, h2, h4, h5, h26, hb, e1, e3]
          exact .inl trivial
        · exact .inr trivial
      · rw [subsN, if_neg h0s] at h26
        have e4 : bitsI .and .i64 ((s : Int) - 1) (R : Int) = (((s - 1) &&& R : Nat) : Int) := by
          rw [show (s : Int) - 1 = ((s - 1 : Nat) : Int) from by omega]; exact and_nat (by omega) (by omega)
        have hle := @Nat.and_le_left (s - 1) R
        simp -implicitDefEqProofs (disch := omega) only [go_sem, ↓reduceIte, Nat.reduceEqDiff, Nat.reduceMul, Nat.reduceAdd, Nat.reduceDiv, Nat.reduceBEq, Nat.reduceLeDiff, Int.reduceToNat, Int.reduceNe, Int.reduceEq, Int.reduceLT, Int.reduceLE, Int.reduceBEq, Int.reduceBNe, ne_eq, not_true_eq_false, not_false_eq_true, decide_true, decide_false, List.length_map, h0, h2, h4, h5, h26, hb, e1, e3, e4]
        refine ⟨branch_r (by omega) ?_, ?_⟩
        · simp -implicitDefEqProofs (disch := omega) only [go_sem, ↓reduceIte, Nat.reduceEqDiff, Nat.reduceMul, Nat.reduceAdd, Nat.reduceDiv, Nat.reduceBEq, Nat.reduceLeDiff, Int.reduceToNat, Int.reduceNe, Int.reduceEq, Int.reduceLT, Int.reduceLE, Int.reduceBEq, Int.reduceBNe, ne_eq, not_true_eq_false, not_false_eq_true, decide_true, decide_false, List.length_map, h0, h2, h4, h5, h26, hb, e1, e3, e4]
          refine againQ_mk m (by omega) ⟨(s - 1) &&& R, by omega, by omega, ?_⟩
          simp -implicitDefEqProofs (disch := omega) only [go_sem, ↓reduceIte, Nat.reduceEqDiff, Nat.reduceMul, Nat.reduceAdd, Nat.reduceDiv, Nat.reduceBEq, Nat.reduceLeDiff, Int.reduceToNat, Int.reduceNe, Int.reduceEq, Int.reduceLT, Int.reduceLE, Int.reduceBEq, Int.reduceBNe, ne_eq, not_true_eq_false, not_false_eq_true, decide_true, decide_false, List.length_map, h0, h2, h4, h5, h26, hb, e1, e3, e4]
        · exact .inr trivial
end Go.Proofs.Ytcllccpeechdhaa
set_option maxRecDepth 100000
namespace Go.Proofs.Ytcllccpeechdhaa
open Go.Vai Go Go.Proofs
theorem und79 : Try.prog.underlying 86 = some (.map 3 41) := by kernel_rfl
theorem und3 : Try.prog.underlying 3 = some (.int .i64) := by kernel_rfl
abbrev LG (S : List Int) (kv : List (Int × AV)) : List (Nat × Blk) := [(69206064, ⟨83, 256, [.agg (S.map I)]⟩), (69206624, ⟨86, 0, kv.map entA⟩)]
abbrev LKG (b S : List Int) (n : Nat) (kv : List (Int × AV)) (all : Nat) : Prop :=
  LOK Try.prog 43 (inI [69206064, 69206624]) [.ptr 69206064 256 0 0, .mref 69206624, I all] (stO (LG S kv)) (SL (gI (gF b 256 all))) (stO (LG S (kvF b n kv all)))
theorem groups0 (b S : List Int) (n : Nat) (kv : List (Int × AV)) (hk : KvOK b kv) : LKG b S (n + 1) kv 0 := by
  have hn := namesL_kv hk
  unfold LKG
  rw [kvF, gF, if_pos rfl, if_pos rfl]
  refine lok_sl (e := 3) ?_
  refine lok_of [69206064, 69206624] Try.func43 rfl (by kernel_rfl) moN (Nat.le_of_ble_eq_true rfl) rfl (by kernel_rfl) (by kernel_rfl) ?_
  simp -implicitDefEqProofs (disch := omega) only [go_sem, ↓reduceIte, Nat.reduceEqDiff, Nat.reduceMul, Nat.reduceAdd, Nat.reduceDiv, Nat.reduceBEq, Nat.reduceLeDiff, Int.reduceToNat, Int.reduceNe, Int.reduceEq, Int.reduceLT, Int.reduceLE, Int.reduceBEq, Int.reduceBNe, ne_eq, not_true_eq_false, not_false_eq_true, decide_true, decide_false, List.length_map, Try.ntmps43, hn]
  refine branch_l rfl ?_
  simp -implicitDefEqProofs (disch := omega) only [go_sem, ↓reduceIte, Nat.reduceEqDiff, Nat.reduceMul, Nat.reduceAdd, Nat.reduceDiv, Nat.reduceBEq, Nat.reduceLeDiff, Int.reduceToNat, Int.reduceNe, Int.reduceEq, Int.reduceLT, Int.reduceLE, Int.reduceBEq, Int.reduceBNe, ne_eq, not_true_eq_false, not_false_eq_true, decide_true, decide_false, List.length_map, hn, Try.results43]
theorem groups1 (b S : List Int) (n : Nat) (kv : List (Int × AV)) (all : Nat) (hk : KvOK b kv) (h0 : all ≠ 0) (hm : (mgetA (all : Int) kv).isSome = true) : LKG b S (n + 1) kv all := by
  have hn := namesL_kv hk
  unfold LKG
  rw [kvF, if_neg h0, if_pos hm]
  refine lok_of [69206064, 69206624] Try.func43 rfl (by kernel_rfl) moN (Nat.le_of_ble_eq_true rfl) rfl (by kernel_rfl) (by kernel_rfl) ?_
  simp -implicitDefEqProofs (disch := omega) only [go_sem, ↓reduceIte, Nat.reduceEqDiff, Nat.reduceMul, Nat.reduceAdd, Nat.reduceDiv, Nat.reduceBEq, Nat.reduceLeDiff, Int.reduceToNat, Int.reduceNe, Int.reduceEq, Int.reduceLT, Int.reduceLE, Int.reduceBEq, Int.reduceBNe, ne_eq, not_true_eq_false, not_false_eq_true, decide_true, decide_false, List.length_map, Try.ntmps43, hn]
  refine branch_r (by omega) ?_
  simp -implicitDefEqProofs (disch := omega) only [go_sem, ↓reduceIte, Nat.reduceEqDiff, Nat.reduceMul, Nat.reduceAdd, Nat.reduceDiv, Nat.reduceBEq, Nat.reduceLeDiff, Int.reduceToNat, Int.reduceNe, Int.reduceEq, Int.reduceLT, Int.reduceLE, Int.reduceBEq, Int.reduceBNe, ne_eq, not_true_eq_false, not_false_eq_true, decide_true, decide_false, List.length_map, hn]
  refine lookup_mk (kt := 3) (et := 41) (id := 69206624) (e := 86) (l := kv) (n := all) ?_ ?_ ?_ und79 und3 tz_41 (fun v hv => ?_) (fun hv => ?_)
  · simp -implicitDefEqProofs (disch := omega) only [go_sem, ↓reduceIte, Nat.reduceEqDiff, Nat.reduceMul, Nat.reduceAdd, Nat.reduceDiv, Nat.reduceBEq, Nat.reduceLeDiff, Int.reduceToNat, Int.reduceNe, Int.reduceEq, Int.reduceLT, Int.reduceLE, Int.reduceBEq, Int.reduceBNe, ne_eq, not_true_eq_false, not_false_eq_true, decide_true, decide_false, List.length_map]
  · simp -implicitDefEqProofs (disch := omega) only [go_sem, ↓reduceIte, Nat.reduceEqDiff, Nat.reduceMul, Nat.reduceAdd, Nat.reduceDiv, Nat.reduceBEq, Nat.reduceLeDiff, Int.reduceToNat, Int.reduceNe, Int.reduceEq, Int.reduceLT, Int.reduceLE, Int.reduceBEq, Int.reduceBNe, ne_eq, not_true_eq_false, not_false_eq_true, decide_true, decide_false, List.length_map]
  · simp -implicitDefEqProofs (disch := omega) only [go_sem, ↓reduceIte, Nat.reduceEqDiff, Nat.reduceMul, Nat.reduceAdd, Nat.reduceDiv, Nat.reduceBEq, Nat.reduceLeDiff, Int.reduceToNat, Int.reduceNe, Int.reduceEq, Int.reduceLT, Int.reduceLE, Int.reduceBEq, Int.reduceBNe, ne_eq, not_true_eq_false, not_false_eq_true, decide_true, decide_false, List.length_map, hn]
  · rw [kv_get hk hv]
    simp -implicitDefEqProofs (disch := omega) only [go_sem, ↓reduceIte, Nat.reduceEqDiff, Nat.reduceMul, Nat.reduceAdd, Nat.reduceDiv, Nat.reduceBEq, Nat.reduceLeDiff, Int.reduceToNat, Int.reduceNe, Int.reduceEq, Int.reduceLT, Int.reduceLE, Int.reduceBEq, Int.reduceBNe, ne_eq, not_true_eq_false, not_false_eq_true, decide_true, decide_false, List.length_map, hn, Try.results43]
  · rw [hv] at hm; cases hm
set_option maxHeartbeats 4000000 in
theorem groups_lok (b S : List Int) (hS : S.length = 256) (hat : ∀ s, s < 256 → gd S s = sumM b s) : ∀ (n all : Nat) (kv : List (Int × AV)), all < n → all < 256 → KvOK b kv → LKG b S n kv all := by
  intro n
  induction n with
  | zero => intro all kv h; omega
  | succ n ih =>
    intro all kv hn h8 hk
    by_cases h0 : all = 0
    · subst h0; exact groups0 b S n kv hk
    cases hm : mgetA (all : Int) kv with
    | some v => exact groups1 b S n kv all hk h0 (by rw [hm]; rfl)
    | none =>
      have hnm := namesL_kv hk
      obtain ⟨hl1, hl2, hl3⟩ := lowF_spec h8 h0
      have hG : gF b 256 all = (setsF all (lowF all)).foldl (bestF b (gF b 256) all) [] := by
        rw [gF, if_neg h0]
        refine foldl_congr _ _ fun best s hs => ?_
        have hlt := lessN_lt hl1 ((setsF_mem hl1 h8 s).1 hs).2
        unfold bestF
        rw [gF_fuel b 255 256 (lessN all s) (by omega) (by omega) (by omega)]
      have hK : kvF b (n + 1) kv all = mputA ((setsF all (lowF all)).foldl (fun kv s => if sumM b s = 0 then kvF b n kv (lessN all s) else kv) kv) all (SL (gI (gF b 256 all))) := by
        rw [kvF, if_neg h0, hm]; rfl
      unfold LKG
      rw [hK, hG]
      refine lok_of [69206064, 69206624] Try.func43 rfl (by kernel_rfl) moN (Nat.le_of_ble_eq_true rfl) rfl (by kernel_rfl) (by kernel_rfl) ?_
      simp -implicitDefEqProofs (disch := omega) only [go_sem, ↓reduceIte, Nat.reduceEqDiff, Nat.reduceMul, Nat.reduceAdd, Nat.reduceDiv, Nat.reduceBEq, Nat.reduceLeDiff, Int.reduceToNat, Int.reduceNe, Int.reduceEq, Int.reduceLT, Int.reduceLE, Int.reduceBEq, Int.reduceBNe, ne_eq, not_true_eq_false, not_false_eq_true, decide_true, decide_false, List.length_map, Try.ntmps43, hnm]
      refine branch_r (by omega) ?_
      simp -implicitDefEqProofs (disch := omega) only [go_sem, ↓reduceIte, Nat.reduceEqDiff, Nat.reduceMul, Nat.reduceAdd, Nat.reduceDiv, Nat.reduceBEq, Nat.reduceLeDiff, Int.reduceToNat, Int.reduceNe, Int.reduceEq, Int.reduceLT, Int.reduceLE, Int.reduceBEq, Int.reduceBNe, ne_eq, not_true_eq_false, not_false_eq_true, decide_true, decide_false, List.length_map, hnm]
      refine lookup_mk (kt := 3) (et := 41) (id := 69206624) (e := 86) (l := kv) (n := all) ?_ ?_ ?_ und79 und3 tz_41 (fun v hv => ?_) (fun hv => ?_)
      · simp -implicitDefEqProofs (disch := omega) only [go_sem, ↓reduceIte, Nat.reduceEqDiff, Nat.reduceMul, Nat.reduceAdd, Nat.reduceDiv, Nat.reduceBEq, Nat.reduceLeDiff, Int.reduceToNat, Int.reduceNe, Int.reduceEq, Int.reduceLT, Int.reduceLE, Int.reduceBEq, Int.reduceBNe, ne_eq, not_true_eq_false, not_false_eq_true, decide_true, decide_false, List.length_map]
      · simp -implicitDefEqProofs (disch := omega) only [go_sem, ↓reduceIte, Nat.reduceEqDiff, Nat.reduceMul, Nat.reduceAdd, Nat.reduceDiv, Nat.reduceBEq, Nat.reduceLeDiff, Int.reduceToNat, Int.reduceNe, Int.reduceEq, Int.reduceLT, Int.reduceLE, Int.reduceBEq, Int.reduceBNe, ne_eq, not_true_eq_false, not_false_eq_true, decide_true, decide_false, List.length_map]
      · simp -implicitDefEqProofs (disch := omega) only [go_sem, ↓reduceIte, Nat.reduceEqDiff, Nat.reduceMul, Nat.reduceAdd, Nat.reduceDiv, Nat.reduceBEq, Nat.reduceLeDiff, Int.reduceToNat, Int.reduceNe, Int.reduceEq, Int.reduceLT, Int.reduceLE, Int.reduceBEq, Int.reduceBNe, ne_eq, not_true_eq_false, not_false_eq_true, decide_true, decide_false, List.length_map, hnm]
      · rw [hm] at hv; cases hv
      · simp -implicitDefEqProofs (disch := omega) only [go_sem, ↓reduceIte, Nat.reduceEqDiff, Nat.reduceMul, Nat.reduceAdd, Nat.reduceDiv, Nat.reduceBEq, Nat.reduceLeDiff, Int.reduceToNat, Int.reduceNe, Int.reduceEq, Int.reduceLT, Int.reduceLE, Int.reduceBEq, Int.reduceBNe, ne_eq, not_true_eq_false, not_false_eq_true, decide_true, decide_false, List.length_map, hnm]
        refine loopC_mk (fun k E σ => ∃ c : Nat, c + k = 8 ∧ lowF all = lowN all c k ∧ E 3 = .ptr 92274736 1 0 0 ∧ E 4 = .ptr 92274752 1 0 0 ∧ E 5 = .ptr 92274768 1 0 0 ∧ E 9 = I c ∧
          σ 92274736 = some ⟨85, 1, [.ptr 69206064 256 0 0]⟩ ∧ σ 92274752 = some ⟨86, 1, [.mref 69206624]⟩ ∧ σ 92274768 = some ⟨3, 1, [I all]⟩ ∧ σ 69206064 = some ⟨83, 256, [.agg (S.map I)]⟩ ∧ σ 69206624 = some ⟨86, 0, kv.map entA⟩) 8 ⟨0, rfl, rfl, ?_⟩ ?_
        · simp -implicitDefEqProofs (disch := omega) only [go_sem, ↓reduceIte, Nat.reduceEqDiff, Nat.reduceMul, Nat.reduceAdd, Nat.reduceDiv, Nat.reduceBEq, Nat.reduceLeDiff, Int.reduceToNat, Int.reduceNe, Int.reduceEq, Int.reduceLT, Int.reduceLE, Int.reduceBEq, Int.reduceBNe, ne_eq, not_true_eq_false, not_false_eq_true, decide_true, decide_false, List.length_map, hnm]
          rfl
        · rintro k E σ ⟨c, hc, hlow, h3, h4, h5, h9, m3, m4, m5, mS, mM⟩
          have hb0 := bit_test0 (s := all) (c := c) (by omega) (by omega)
          simp -implicitDefEqProofs (disch := omega) only [go_sem, ↓reduceIte, Nat.reduceEqDiff, Nat.reduceMul, Nat.reduceAdd, Nat.reduceDiv, Nat.reduceBEq, Nat.reduceLeDiff, Int.reduceToNat, Int.reduceNe, Int.reduceEq, Int.reduceLT, Int.reduceLE, Int.reduceBEq, Int.reduceBNe, ne_eq, not_true_eq_false, not_false_eq_true, decide_true, decide_false, List.length_map, h3, h4, h5, h9, m3, m4, m5, mS, mM, hnm]
          refine branch_mk (fun hb => ?_) (fun hb => ?_)
          · simp -implicitDefEqProofs (disch := omega) only [go_sem, ↓reduceIte, Nat.reduceEqDiff, Nat.reduceMul, Nat.reduceAdd, Nat.reduceDiv, Nat.reduceBEq, Nat.reduceLeDiff, Int.reduceToNat, Int.reduceNe, Int.reduceEq, Int.reduceLT, Int.reduceLE, Int.reduceBEq, Int.reduceBNe, ne_eq, not_true_eq_false, not_false_eq_true, decide_true, decide_false, List.length_map, h3, h4, h5, h9, m3, m4, m5, mS, mM, hnm]
            have hb := hb0.1 hb
            obtain ⟨k, rfl⟩ : ∃ m, k = m + 1 := ⟨k - 1, by
              have : k ≠ 0 := fun e => by subst e; rw [lowN] at hlow; omega
              omega⟩
            rw [lowN, hb] at hlow
            refine againQ_mk k (by omega) ⟨c + 1, by omega, by simpa using hlow, ?_⟩
            simp -implicitDefEqProofs (disch := omega) only [go_sem, ↓reduceIte, Nat.reduceEqDiff, Nat.reduceMul, Nat.reduceAdd, Nat.reduceDiv, Nat.reduceBEq, Nat.reduceLeDiff, Int.reduceToNat, Int.reduceNe, Int.reduceEq, Int.reduceLT, Int.reduceLE, Int.reduceBEq, Int.reduceBNe, ne_eq, not_true_eq_false, not_false_eq_true, decide_true, decide_false, List.length_map, h3, h4, h5, h9, m3, m4, m5, mS, mM, hnm]
            simp
          · have hb : all.testBit c = true := by
              cases h : all.testBit c with
              | true => rfl
              | false => exact absurd (hb0.2 h) hb
            have hcl : lowF all = c := by
              cases k with
              | zero => rw [lowN] at hlow; omega
              | succ k => rw [lowN, if_pos hb] at hlow; exact hlow
            rw [hcl] at hl1 hl2 hl3 hG hK
            rw [hcl]
            have hmem := setsF_mem hl1 h8
            simp -implicitDefEqProofs (disch := omega) only [go_sem, ↓reduceIte, Nat.reduceEqDiff, Nat.reduceMul, Nat.reduceAdd, Nat.reduceDiv, Nat.reduceBEq, Nat.reduceLeDiff, Int.reduceToNat, Int.reduceNe, Int.reduceEq, Int.reduceLT, Int.reduceLE, Int.reduceBEq, Int.reduceBNe, ne_eq, not_true_eq_false, not_false_eq_true, decide_true, decide_false, List.length_map, h3, h4, h5, h9, m3, m4, m5, mS, mM, hnm]
            refine callC_at (sets_ev all c) ?_
            simp -implicitDefEqProofs (disch := omega) only [go_sem, ↓reduceIte, Nat.reduceEqDiff, Nat.reduceMul, Nat.reduceAdd, Nat.reduceDiv, Nat.reduceBEq, Nat.reduceLeDiff, Int.reduceToNat, Int.reduceNe, Int.reduceEq, Int.reduceLT, Int.reduceLE, Int.reduceBEq, Int.reduceBNe, ne_eq, not_true_eq_false, not_false_eq_true, decide_true, decide_false, List.length_map, h3, h4, h5, h9, m3, m4, m5, mS, mM, hnm]
            refine awpC_range ?_
            refine range_mkL [92275200, 92275201] [69206064, 69206624, 92274736, 92274752, 92274768, 92274848] 5767268 ((setsF all c).map YS)
              (fun xs σ => ∃ (d r : List Nat) (x : Nat) (kv' : List (Int × AV)), setsF all c = d ++ r ∧ xs = r.map YS ∧ (x = 92274849 ∨ x = 92277136) ∧ KvOK b kv' ∧ kv' = d.foldl (fun kv s => if sumM b s = 0 then kvF b n kv (lessN all s) else kv) kv ∧
                σ 92274736 = some ⟨85, 1, [.ptr 69206064 256 0 0]⟩ ∧ σ 92274752 = some ⟨86, 1, [.mref 69206624]⟩ ∧ σ 92274768 = some ⟨3, 1, [I all]⟩ ∧ σ 69206064 = some ⟨83, 256, [.agg (S.map I)]⟩ ∧ σ 69206624 = some ⟨86, 0, kv'.map entA⟩ ∧
                σ 92274848 = some ⟨41, 1, [.own x 1 0 (d.foldl (bestF b (gF b 256) all) []).length]⟩ ∧ σ x = some ⟨3, 1, (gI (d.foldl (bestF b (gF b 256) all) [])).map I⟩)
              (g := 63) (caps := [.ptr 92275200 1 0 0, .ptr 92275201 1 0 0]) ?_ ?_ ?_ ?_ ?_ ?_ ?_ ?_ ?_
            · simp -implicitDefEqProofs (disch := omega) only [go_sem, ↓reduceIte, Nat.reduceEqDiff, Nat.reduceMul, Nat.reduceAdd, Nat.reduceDiv, Nat.reduceBEq, Nat.reduceLeDiff, Int.reduceToNat, Int.reduceNe, Int.reduceEq, Int.reduceLT, Int.reduceLE, Int.reduceBEq, Int.reduceBNe, ne_eq, not_true_eq_false, not_false_eq_true, decide_true, decide_false, List.length_map]
            · refine sets_sok all c _ _ _ h8 hl2 ?_ ?_ (by decide) (by decide) <;> simp -implicitDefEqProofs (disch := omega) only [go_sem, ↓reduceIte, Nat.reduceEqDiff, Nat.reduceMul, Nat.reduceAdd, Nat.reduceDiv, Nat.reduceBEq, Nat.reduceLeDiff, Int.reduceToNat, Int.reduceNe, Int.reduceEq, Int.reduceLT, Int.reduceLE, Int.reduceBEq, Int.reduceBNe, ne_eq, not_true_eq_false, not_false_eq_true, decide_true, decide_false, List.length_map]
            · intro x hx
              obtain ⟨y, _, rfl⟩ := List.mem_map.1 hx
              rfl
            · simp -implicitDefEqProofs (disch := omega) only [go_sem, ↓reduceIte, Nat.reduceEqDiff, Nat.reduceMul, Nat.reduceAdd, Nat.reduceDiv, Nat.reduceBEq, Nat.reduceLeDiff, Int.reduceToNat, Int.reduceNe, Int.reduceEq, Int.reduceLT, Int.reduceLE, Int.reduceBEq, Int.reduceBNe, ne_eq, not_true_eq_false, not_false_eq_true, decide_true, decide_false, List.length_map]
            · simp -implicitDefEqProofs (disch := omega) only [go_sem, ↓reduceIte, Nat.reduceEqDiff, Nat.reduceMul, Nat.reduceAdd, Nat.reduceDiv, Nat.reduceBEq, Nat.reduceLeDiff, Int.reduceToNat, Int.reduceNe, Int.reduceEq, Int.reduceLT, Int.reduceLE, Int.reduceBEq, Int.reduceBNe, ne_eq, not_true_eq_false, not_false_eq_true, decide_true, decide_false, List.length_map]
            · refine ⟨[], _, 92274849, kv, rfl, rfl, .inl rfl, hk, rfl, ?_⟩
              simp -implicitDefEqProofs (disch := omega) only [go_sem, ↓reduceIte, Nat.reduceEqDiff, Nat.reduceMul, Nat.reduceAdd, Nat.reduceDiv, Nat.reduceBEq, Nat.reduceLeDiff, Int.reduceToNat, Int.reduceNe, Int.reduceEq, Int.reduceLT, Int.reduceLE, Int.reduceBEq, Int.reduceBNe, ne_eq, not_true_eq_false, not_false_eq_true, decide_true, decide_false, List.length_map, h3, h4, h5, h9, m3, m4, m5, mS, mM, hnm]
              exact ⟨rfl, rfl⟩
            · rintro E0 hE0 y rest σ' ⟨d, r, x, kv', hst, hxs, hx, hk', hkv, n3, n4, n5, nS, nM, n10, nx⟩
              have e3 : E0 3 = .ptr 92274736 1 0 0 := by rw [hE0]; simp -implicitDefEqProofs (disch := omega) only [go_sem, ↓reduceIte, Nat.reduceEqDiff, Nat.reduceMul, Nat.reduceAdd, Nat.reduceDiv, Nat.reduceBEq, Nat.reduceLeDiff, Int.reduceToNat, Int.reduceNe, Int.reduceEq, Int.reduceLT, Int.reduceLE, Int.reduceBEq, Int.reduceBNe, ne_eq, not_true_eq_false, not_false_eq_true, decide_true, decide_false, List.length_map, h3]
              have e4 : E0 4 = .ptr 92274752 1 0 0 := by rw [hE0]; simp -implicitDefEqProofs (disch := omega) only [go_sem, ↓reduceIte, Nat.reduceEqDiff, Nat.reduceMul, Nat.reduceAdd, Nat.reduceDiv, Nat.reduceBEq, Nat.reduceLeDiff, Int.reduceToNat, Int.reduceNe, Int.reduceEq, Int.reduceLT, Int.reduceLE, Int.reduceBEq, Int.reduceBNe, ne_eq, not_true_eq_false, not_false_eq_true, decide_true, decide_false, List.length_map, h4]
              have e5 : E0 5 = .ptr 92274768 1 0 0 := by rw [hE0]; simp -implicitDefEqProofs (disch := omega) only [go_sem, ↓reduceIte, Nat.reduceEqDiff, Nat.reduceMul, Nat.reduceAdd, Nat.reduceDiv, Nat.reduceBEq, Nat.reduceLeDiff, Int.reduceToNat, Int.reduceNe, Int.reduceEq, Int.reduceLT, Int.reduceLE, Int.reduceBEq, Int.reduceBNe, ne_eq, not_true_eq_false, not_false_eq_true, decide_true, decide_false, List.length_map, h5]
              have e10 : E0 10 = .ptr 92274848 1 0 0 := by rw [hE0]; simp -implicitDefEqProofs (disch := omega) only [go_sem, ↓reduceIte, Nat.reduceEqDiff, Nat.reduceMul, Nat.reduceAdd, Nat.reduceDiv, Nat.reduceBEq, Nat.reduceLeDiff, Int.reduceToNat, Int.reduceNe, Int.reduceEq, Int.reduceLT, Int.reduceLE, Int.reduceBEq, Int.reduceBNe, ne_eq, not_true_eq_false, not_false_eq_true, decide_true, decide_false, List.length_map]
              clear hE0 h3 h4 h5 h9 m3 m4 m5 mS mM hnm
              obtain ⟨s, r', rfl, rfl, rfl⟩ : ∃ s r', r = s :: r' ∧ y = YS s ∧ rest = r'.map YS := by
                cases r with
                | nil => cases hxs
                | cons s r' => simp only [List.map_cons, List.cons.injEq] at hxs; exact ⟨s, r', rfl, hxs.1, hxs.2⟩
              have hin := (hmem s).1 (by rw [hst]; simp)
              have hs8 : s < 256 := Nat.lt_of_le_of_lt hin.1.le h8
              have hlt := lessN_lt hl1 hin.2
              have hat' := hat s hs8
              have hnm := namesL_kv hk'
              have hml : (d.foldl (bestF b (gF b 256) all) []).length ≤ 257 := by
                have : ∀ (l : List Nat) (best : List Nat), best.length ≤ 257 → (l.foldl (bestF b (gF b 256) all) best).length ≤ 257 := fun l => by
                  induction l with
                  | nil => intro best h; exact h
                  | cons s l ih =>
                    intro best h
                    rw [List.foldl_cons]
                    refine ih _ ?_
                    have := gF_length b 256 (lessN all s)
                    unfold bestF
                    split
                    · split
                      · rw [List.length_cons]; omega
                      · exact h
                    · exact h
                exact this d [] (by simp)
              have hbest : (d ++ [s]).foldl (bestF b (gF b 256) all) [] = bestF b (gF b 256) all (d.foldl (bestF b (gF b 256) all) []) s := by rw [List.foldl_append]; rfl
              have hkv2 : (d ++ [s]).foldl (fun kv s => if sumM b s = 0 then kvF b n kv (lessN all s) else kv) kv = if sumM b s = 0 then kvF b n kv' (lessN all s) else kv' := by rw [List.foldl_append, ← hkv]; rfl
              generalize d.foldl (bestF b (gF b 256) all) [] = m at *
              simp -implicitDefEqProofs (disch := omega) only [go_sem, ↓reduceIte, Nat.reduceEqDiff, Nat.reduceMul, Nat.reduceAdd, Nat.reduceDiv, Nat.reduceBEq, Nat.reduceLeDiff, Int.reduceToNat, Int.reduceNe, Int.reduceEq, Int.reduceLT, Int.reduceLE, Int.reduceBEq, Int.reduceBNe, ne_eq, not_true_eq_false, not_false_eq_true, decide_true, decide_false, List.length_map, e3, e4, e5, e10, n3, n4, n5, nS, nM, n10, hS, hat']
              refine branch_mk (fun hz => ?_) (fun hz => ?_)
              · simp -implicitDefEqProofs (disch := omega) only [go_sem, ↓reduceIte, Nat.reduceEqDiff, Nat.reduceMul, Nat.reduceAdd, Nat.reduceDiv, Nat.reduceBEq, Nat.reduceLeDiff, Int.reduceToNat, Int.reduceNe, Int.reduceEq, Int.reduceLT, Int.reduceLE, Int.reduceBEq, Int.reduceBNe, ne_eq, not_true_eq_false, not_false_eq_true, decide_true, decide_false, List.length_map, e3, e4, e5, e10, n3, n4, n5, nS, nM, n10, hS, hat']
                rw [if_neg hz] at hkv2
                rw [bestF, if_neg hz] at hbest
                refine ⟨inL [], fun _ _ => rfl, d ++ [s], r', x, kv', by rw [hst]; simp, rfl, hx, hk', hkv2.symm, ?_⟩
                simp -implicitDefEqProofs (disch := omega) only [go_sem, ↓reduceIte, Nat.reduceEqDiff, Nat.reduceMul, Nat.reduceAdd, Nat.reduceDiv, Nat.reduceBEq, Nat.reduceLeDiff, Int.reduceToNat, Int.reduceNe, Int.reduceEq, Int.reduceLT, Int.reduceLE, Int.reduceBEq, Int.reduceBNe, ne_eq, not_true_eq_false, not_false_eq_true, decide_true, decide_false, List.length_map, e3, e4, e5, e10, n3, n4, n5, nS, nM, n10, nx, hS, hat', hnm, hbest]
              · have hz : sumM b s = 0 := by omega
                rw [if_pos hz] at hkv2
                have e6 : bitsI .andNot .i64 (all : Int) (s : Int) = ((lessN all s : Nat) : Int) := andNot_nat (by omega) (by omega)
                have hL : LOK Try.prog 43 (inI [69206064, 69206624]) ([.ptr 69206064 256 0 0, .mref 69206624, I (lessN all s : Nat)] ++ []) (stO (LG S kv')) (SL (gI (gF b 256 (lessN all s)))) (stO (LG S (kvF b n kv' (lessN all s)))) := ih (lessN all s) kv' (by omega) (by omega) hk'
                have hk2 := kvF_ok n kv' (lessN all s) (by omega) hk'
                have hnm2 := namesL_kv hk2
                have hgl := gF_length b 256 (lessN all s)
                generalize kvF b n kv' (lessN all s) = kv2 at *
                rw [bestF, if_pos hz] at hbest
                generalize gF b 256 (lessN all s) = g at *
                simp -implicitDefEqProofs (disch := omega) only [go_sem, ↓reduceIte, Nat.reduceEqDiff, Nat.reduceMul, Nat.reduceAdd, Nat.reduceDiv, Nat.reduceBEq, Nat.reduceLeDiff, Int.reduceToNat, Int.reduceNe, Int.reduceEq, Int.reduceLT, Int.reduceLE, Int.reduceBEq, Int.reduceBNe, ne_eq, not_true_eq_false, not_false_eq_true, decide_true, decide_false, List.length_map, e3, e4, e5, e10, n3, n4, n5, nS, nM, n10, hS, hat', e6, hnm]
                refine callC_sem rfl ?_
                have hxx := hx
                rcases hx with rfl | rfl
                all_goals
                  refine lent_mk [69206064, 69206624] hL ?_ ?_ ?_ ?_ ?_ ?_ ?_ (hsp := fun id h _ => List.contains_iff_mem.2 h)
                  · simp -implicitDefEqProofs (disch := omega) only [go_sem, ↓reduceIte, Nat.reduceEqDiff, Nat.reduceMul, Nat.reduceAdd, Nat.reduceDiv, Nat.reduceBEq, Nat.reduceLeDiff, Int.reduceToNat, Int.reduceNe, Int.reduceEq, Int.reduceLT, Int.reduceLE, Int.reduceBEq, Int.reduceBNe, ne_eq, not_true_eq_false, not_false_eq_true, decide_true, decide_false, List.length_map]
                  · simp -implicitDefEqProofs (disch := omega) only [go_sem, ↓reduceIte, Nat.reduceEqDiff, Nat.reduceMul, Nat.reduceAdd, Nat.reduceDiv, Nat.reduceBEq, Nat.reduceLeDiff, Int.reduceToNat, Int.reduceNe, Int.reduceEq, Int.reduceLT, Int.reduceLE, Int.reduceBEq, Int.reduceBNe, ne_eq, not_true_eq_false, not_false_eq_true, decide_true, decide_false, List.length_map, e6]
                  · simp -implicitDefEqProofs (disch := omega) only [go_sem, ↓reduceIte, Nat.reduceEqDiff, Nat.reduceMul, Nat.reduceAdd, Nat.reduceDiv, Nat.reduceBEq, Nat.reduceLeDiff, Int.reduceToNat, Int.reduceNe, Int.reduceEq, Int.reduceLT, Int.reduceLE, Int.reduceBEq, Int.reduceBNe, ne_eq, not_true_eq_false, not_false_eq_true, decide_true, decide_false, List.length_map, nS, nM, hnm]
                  · simp -implicitDefEqProofs (disch := omega) only [go_sem, ↓reduceIte, Nat.reduceEqDiff, Nat.reduceMul, Nat.reduceAdd, Nat.reduceDiv, Nat.reduceBEq, Nat.reduceLeDiff, Int.reduceToNat, Int.reduceNe, Int.reduceEq, Int.reduceLT, Int.reduceLE, Int.reduceBEq, Int.reduceBNe, ne_eq, not_true_eq_false, not_false_eq_true, decide_true, decide_false, List.length_map]
                  · simp -implicitDefEqProofs (disch := omega) only [go_sem, ↓reduceIte, Nat.reduceEqDiff, Nat.reduceMul, Nat.reduceAdd, Nat.reduceDiv, Nat.reduceBEq, Nat.reduceLeDiff, Int.reduceToNat, Int.reduceNe, Int.reduceEq, Int.reduceLT, Int.reduceLE, Int.reduceBEq, Int.reduceBNe, ne_eq, not_true_eq_false, not_false_eq_true, decide_true, decide_false, List.length_map, hnm]
                  · simp -implicitDefEqProofs (disch := omega) only [go_sem, ↓reduceIte, Nat.reduceEqDiff, Nat.reduceMul, Nat.reduceAdd, Nat.reduceDiv, Nat.reduceBEq, Nat.reduceLeDiff, Int.reduceToNat, Int.reduceNe, Int.reduceEq, Int.reduceLT, Int.reduceLE, Int.reduceBEq, Int.reduceBNe, ne_eq, not_true_eq_false, not_false_eq_true, decide_true, decide_false, List.length_map, hnm2]
                  · simp -implicitDefEqProofs (disch := omega) only [go_sem, ↓reduceIte, Nat.reduceEqDiff, Nat.reduceMul, Nat.reduceAdd, Nat.reduceDiv, Nat.reduceBEq, Nat.reduceLeDiff, Int.reduceToNat, Int.reduceNe, Int.reduceEq, Int.reduceLT, Int.reduceLE, Int.reduceBEq, Int.reduceBNe, ne_eq, not_true_eq_false, not_false_eq_true, decide_true, decide_false, List.length_map, e3, e4, e5, e10, n3, n4, n5, nS, nM, n10, nx, hnm2]
                    refine branch_mk (fun hlg => ?_) (fun hlg => ?_)
                    · rw [if_pos (by omega)] at hbest
                      simp (maxSteps := 4000000) -implicitDefEqProofs (disch := omega) only [go_sem, ↓reduceIte, Nat.reduceEqDiff, Nat.reduceMul, Nat.reduceAdd, Nat.reduceDiv, Nat.reduceBEq, Nat.reduceLeDiff, Int.reduceToNat, Int.reduceNe, Int.reduceEq, Int.reduceLT, Int.reduceLE, Int.reduceBEq, Int.reduceBNe, ne_eq, not_true_eq_false, not_false_eq_true, decide_true, decide_false, List.length_map, e3, e4, e5, e10, n3, n4, n5, nS, nM, n10, nx, hnm2]
                      refine ⟨inL [], fun _ _ => rfl, d ++ [s], r', 92277136, kv2, by rw [hst]; simp, rfl, .inr rfl, hk2, hkv2.symm, ?_⟩
                      simp (maxSteps := 4000000) -implicitDefEqProofs (disch := omega) only [go_sem, ↓reduceIte, Nat.reduceEqDiff, Nat.reduceMul, Nat.reduceAdd, Nat.reduceDiv, Nat.reduceBEq, Nat.reduceLeDiff, Int.reduceToNat, Int.reduceNe, Int.reduceEq, Int.reduceLT, Int.reduceLE, Int.reduceBEq, Int.reduceBNe, ne_eq, not_true_eq_false, not_false_eq_true, decide_true, decide_false, List.length_map, e3, e4, e5, e10, n3, n4, n5, nS, nM, n10, nx, hnm2, hbest]
                      rw [Nat.add_comm]
                    · rw [if_neg (by omega)] at hbest
                      simp -implicitDefEqProofs (disch := omega) only [go_sem, ↓reduceIte, Nat.reduceEqDiff, Nat.reduceMul, Nat.reduceAdd, Nat.reduceDiv, Nat.reduceBEq, Nat.reduceLeDiff, Int.reduceToNat, Int.reduceNe, Int.reduceEq, Int.reduceLT, Int.reduceLE, Int.reduceBEq, Int.reduceBNe, ne_eq, not_true_eq_false, not_false_eq_true, decide_true, decide_false, List.length_map, e3, e4, e5, e10, n3, n4, n5, nS, nM, n10, nx, hnm2]
                      refine ⟨inL [], fun _ _ => rfl, d ++ [s], r', _, kv2, by rw [hst]; simp, rfl, hxx, hk2, hkv2.symm, ?_⟩
                      simp -implicitDefEqProofs (disch := omega) only [go_sem, ↓reduceIte, Nat.reduceEqDiff, Nat.reduceMul, Nat.reduceAdd, Nat.reduceDiv, Nat.reduceBEq, Nat.reduceLeDiff, Int.reduceToNat, Int.reduceNe, Int.reduceEq, Int.reduceLT, Int.reduceLE, Int.reduceBEq, Int.reduceBNe, ne_eq, not_true_eq_false, not_false_eq_true, decide_true, decide_false, List.length_map, e3, e4, e5, e10, n3, n4, n5, nS, nM, n10, nx, hnm2, hbest]
            · rintro E0 hE0 σ' ⟨d, r, x, kv', hst, hxs, hx, hk', hkv, n3, n4, n5, nS, nM, n10, nx⟩
              have e4 : E0 4 = .ptr 92274752 1 0 0 := by rw [hE0]; simp -implicitDefEqProofs (disch := omega) only [go_sem, ↓reduceIte, Nat.reduceEqDiff, Nat.reduceMul, Nat.reduceAdd, Nat.reduceDiv, Nat.reduceBEq, Nat.reduceLeDiff, Int.reduceToNat, Int.reduceNe, Int.reduceEq, Int.reduceLT, Int.reduceLE, Int.reduceBEq, Int.reduceBNe, ne_eq, not_true_eq_false, not_false_eq_true, decide_true, decide_false, List.length_map, h4]
              have e5 : E0 5 = .ptr 92274768 1 0 0 := by rw [hE0]; simp -implicitDefEqProofs (disch := omega) only [go_sem, ↓reduceIte, Nat.reduceEqDiff, Nat.reduceMul, Nat.reduceAdd, Nat.reduceDiv, Nat.reduceBEq, Nat.reduceLeDiff, Int.reduceToNat, Int.reduceNe, Int.reduceEq, Int.reduceLT, Int.reduceLE, Int.reduceBEq, Int.reduceBNe, ne_eq, not_true_eq_false, not_false_eq_true, decide_true, decide_false, List.length_map, h5]
              have e10 : E0 10 = .ptr 92274848 1 0 0 := by rw [hE0]; simp -implicitDefEqProofs (disch := omega) only [go_sem, ↓reduceIte, Nat.reduceEqDiff, Nat.reduceMul, Nat.reduceAdd, Nat.reduceDiv, Nat.reduceBEq, Nat.reduceLeDiff, Int.reduceToNat, Int.reduceNe, Int.reduceEq, Int.reduceLT, Int.reduceLE, Int.reduceBEq, Int.reduceBNe, ne_eq, not_true_eq_false, not_false_eq_true, decide_true, decide_false, List.length_map]
              clear hE0 h3 h4 h5 h9 m3 m4 m5 mS mM hnm
              have hr : r = [] := by simpa using hxs.symm
              subst hr
              rw [List.append_nil] at hst
              rw [← hst] at hkv n10 nx
              rw [← hG] at n10 nx
              rw [← hkv]
              have hnm := namesL_kv hk'
              have hnm2 := namesL_kv (kv_put hk' h8)
              rw [← hG]
              generalize gF b 256 all = g at *
              simp -implicitDefEqProofs (disch := omega) only [go_sem, ↓reduceIte, Nat.reduceEqDiff, Nat.reduceMul, Nat.reduceAdd, Nat.reduceDiv, Nat.reduceBEq, Nat.reduceLeDiff, Int.reduceToNat, Int.reduceNe, Int.reduceEq, Int.reduceLT, Int.reduceLE, Int.reduceBEq, Int.reduceBNe, ne_eq, not_true_eq_false, not_false_eq_true, decide_true, decide_false, List.length_map, e4, e5, e10, n4, n5, nS, nM, n10, nx]
              rcases hx with rfl | rfl
              all_goals
                refine freeze_op [92274849, 92277136] ?_
                simp -implicitDefEqProofs (disch := omega) only [go_sem, ↓reduceIte, Nat.reduceEqDiff, Nat.reduceMul, Nat.reduceAdd, Nat.reduceDiv, Nat.reduceBEq, Nat.reduceLeDiff, Int.reduceToNat, Int.reduceNe, Int.reduceEq, Int.reduceLT, Int.reduceLE, Int.reduceBEq, Int.reduceBNe, ne_eq, not_true_eq_false, not_false_eq_true, decide_true, decide_false, List.length_map, e4, e5, e10, n4, n5, nS, nM, n10, nx, hnm]
                refine mapUpdate_mk (kt := 3) (et := 41) (id := 69206624) (e := 86) (l := kv') (n := all) ?_ ?_ ?_ und79 und3 ?_
                · simp -implicitDefEqProofs (disch := omega) only [go_sem, ↓reduceIte, Nat.reduceEqDiff, Nat.reduceMul, Nat.reduceAdd, Nat.reduceDiv, Nat.reduceBEq, Nat.reduceLeDiff, Int.reduceToNat, Int.reduceNe, Int.reduceEq, Int.reduceLT, Int.reduceLE, Int.reduceBEq, Int.reduceBNe, ne_eq, not_true_eq_false, not_false_eq_true, decide_true, decide_false, List.length_map, e4, e5, e10, n4, n5, nS, nM, n10, nx, hnm]
                · simp -implicitDefEqProofs (disch := omega) only [go_sem, ↓reduceIte, Nat.reduceEqDiff, Nat.reduceMul, Nat.reduceAdd, Nat.reduceDiv, Nat.reduceBEq, Nat.reduceLeDiff, Int.reduceToNat, Int.reduceNe, Int.reduceEq, Int.reduceLT, Int.reduceLE, Int.reduceBEq, Int.reduceBNe, ne_eq, not_true_eq_false, not_false_eq_true, decide_true, decide_false, List.length_map, e4, e5, e10, n4, n5, nS, nM, n10, nx, hnm]
                · simp -implicitDefEqProofs (disch := omega) only [go_sem, ↓reduceIte, Nat.reduceEqDiff, Nat.reduceMul, Nat.reduceAdd, Nat.reduceDiv, Nat.reduceBEq, Nat.reduceLeDiff, Int.reduceToNat, Int.reduceNe, Int.reduceEq, Int.reduceLT, Int.reduceLE, Int.reduceBEq, Int.reduceBNe, ne_eq, not_true_eq_false, not_false_eq_true, decide_true, decide_false, List.length_map, e4, e5, e10, n4, n5, nS, nM, n10, nx, hnm]
                · simp -implicitDefEqProofs (disch := omega) only [go_sem, ↓reduceIte, Nat.reduceEqDiff, Nat.reduceMul, Nat.reduceAdd, Nat.reduceDiv, Nat.reduceBEq, Nat.reduceLeDiff, Int.reduceToNat, Int.reduceNe, Int.reduceEq, Int.reduceLT, Int.reduceLE, Int.reduceBEq, Int.reduceBNe, ne_eq, not_true_eq_false, not_false_eq_true, decide_true, decide_false, List.length_map, e4, e5, e10, n4, n5, nS, nM, n10, nx, hnm, hnm2, Try.results43]
            · intro id h
              have := inI_mem h
              simp only [List.mem_cons, List.not_mem_nil, or_false] at this
              rcases this with rfl | rfl <;> rfl
end Go.Proofs.Ytcllccpeechdhaa
set_option maxRecDepth 100000
namespace Go.Proofs.Ytcllccpeechdhaa
open Go.Vai Go Go.Proofs
theorem sumK_low (b : List Int) {s c : Nat} (h : s < 2 ^ c) : sumK b s (c + 1) = sumK b s c := by
  rw [sumK, Nat.testBit_lt_two_pow h]; simp
theorem or_two {s c : Nat} (h : s < 2 ^ c) : s ||| 2 ^ c = s + 2 ^ c := by
  have := Nat.two_pow_add_eq_or_of_lt h 1
  rw [Nat.mul_one] at this
  rw [Nat.or_comm, ← this, Nat.add_comm]
theorem sumK_or (b : List Int) {s c : Nat} (h : s < 2 ^ c) : ∀ i, i ≤ c → sumK b (s + 2 ^ c) i = sumK b s i
  | 0, _ => rfl
  | i + 1, hi => by
    rw [sumK, sumK, sumK_or b h i (by omega), ← or_two h, Nat.testBit_or, Nat.testBit_two_pow]
    have : decide (c = i) = false := by simp; omega
    rw [this, Bool.or_false]
theorem sumK_new (b : List Int) {s c : Nat} (h : s < 2 ^ c) : sumK b (s + 2 ^ c) (c + 1) = sumK b s c + gd b c := by
  rw [sumK, sumK_or b h c (Nat.le_refl _), ← or_two h, Nat.testBit_or, Nat.testBit_two_pow]
  simp
theorem sumK_le (b : List Int) (h : ∀ i, i < 8 → -1000000000000 ≤ gd b i ∧ gd b i ≤ 1000000000000) (s : Nat) : ∀ i : Nat, i ≤ 8 → -(1000000000000 * (i : Int)) ≤ sumK b s i ∧ sumK b s i ≤ 1000000000000 * (i : Int)
  | 0, _ => by simp [sumK]
  | i + 1, hi => by
    have ih := sumK_le b h s i (by omega)
    have := h i (by omega)
    rw [sumK]
    split <;> omega
@[go_sem] theorem tzA_67N : tzA Try.prog 83 = some (.agg ((List.replicate 256 (0 : Int)).map I)) := by kernel_rfl
theorem grouped_ev (b : List Int) (hb : goodF b = true) : Ev Try.prog 32 [SL b] (SL (gI (gF b 256 (usedF b)))) := by
  obtain ⟨g1, g2, g3⟩ := (goodF_iff b).1 hb
  have hr : ∀ i, i < 8 → -1000000000000 ≤ gd b i ∧ gd b i ≤ 1000000000000 := fun i hi => (inF_iff _ _ _).1 (g1 i (by omega))
  refine ev_of Try.func32 rfl (by kernel_rfl) moN (Nat.le_of_ble_eq_true rfl) ?_
  generalize hz : List.replicate 256 (0 : Int) = Z
  have hZ : Z.length = 256 := by rw [← hz]; exact List.length_replicate
  have hZ0 : gd Z 0 = 0 := by rw [← hz]; rfl
  simp -implicitDefEqProofs (disch := omega) only [go_sem, ↓reduceIte, Nat.reduceEqDiff, Nat.reduceMul, Nat.reduceAdd, Nat.reduceDiv, Nat.reduceBEq, Nat.reduceLeDiff, Int.reduceToNat, Int.reduceNe, Int.reduceEq, Int.reduceLT, Int.reduceLE, Int.reduceBEq, Int.reduceBNe, ne_eq, not_true_eq_false, not_false_eq_true, decide_true, decide_false, List.length_map, Try.ntmps32, hz, hZ]
  refine loopC_mk (fun n E σ => ∃ (c : Nat) (S : List Int), c + n = 8 ∧ S.length = 256 ∧ (∀ s, s < 2 ^ c → gd S s = sumK b s c) ∧ E 0 = SL b ∧ E 3 = .ptr 69206064 256 0 0 ∧ E 4 = I (usedK b c) ∧ E 8 = SL b ∧ E 9 = I 8 ∧ E 10 = I c ∧
    σ 69206064 = some ⟨83, 256, [.agg (S.map I)]⟩) 8 ⟨0, Z, rfl, hZ, ?_, ?_⟩ ?_
  · intro s hs
    have : s = 0 := by simpa using hs
    subst this; rw [hZ0, sumK]
  · simp -implicitDefEqProofs (disch := omega) only [go_sem, ↓reduceIte, Nat.reduceEqDiff, Nat.reduceMul, Nat.reduceAdd, Nat.reduceDiv, Nat.reduceBEq, Nat.reduceLeDiff, Int.reduceToNat, Int.reduceNe, Int.reduceEq, Int.reduceLT, Int.reduceLE, Int.reduceBEq, Int.reduceBNe, ne_eq, not_true_eq_false, not_false_eq_true, decide_true, decide_false, List.length_map, g2]
    exact ⟨rfl, rfl, rfl⟩
  · rintro n E σ ⟨c, S, hc, hS, hall, h0, h3, h4, h8, h9, h10, mS⟩
    simp -implicitDefEqProofs (disch := omega) only [go_sem, ↓reduceIte, Nat.reduceEqDiff, Nat.reduceMul, Nat.reduceAdd, Nat.reduceDiv, Nat.reduceBEq, Nat.reduceLeDiff, Int.reduceToNat, Int.reduceNe, Int.reduceEq, Int.reduceLT, Int.reduceLE, Int.reduceBEq, Int.reduceBNe, ne_eq, not_true_eq_false, not_false_eq_true, decide_true, decide_false, List.length_map, h0, h3, h4, h8, h9, h10, mS]
    refine branch_mk (fun hlt => ?_) (fun hlt => ?_)
    · have hc8 : c < 8 := by omega
      have e1 : IntKind.i64.wrap (1 * 2 ^ min c 64) = ((2 ^ c : Nat) : Int) := shl_min (by omega)
      have hp : 2 ^ c ≤ 128 := Nat.pow_le_pow_right (n := 2) (by omega) (show c ≤ 7 by omega)
      have hu := usedK_lt b c
      have hbc := hr c hc8
      simp -implicitDefEqProofs (disch := omega) only [go_sem, ↓reduceIte, Nat.reduceEqDiff, Nat.reduceMul, Nat.reduceAdd, Nat.reduceDiv, Nat.reduceBEq, Nat.reduceLeDiff, Int.reduceToNat, Int.reduceNe, Int.reduceEq, Int.reduceLT, Int.reduceLE, Int.reduceBEq, Int.reduceBNe, ne_eq, not_true_eq_false, not_false_eq_true, decide_true, decide_false, List.length_map, h0, h3, h4, h8, h9, h10, mS, g2, e1]
      refine loopC_mk (fun k E σ => ∃ (v : Nat) (S : List Int), v + k = 2 ^ c ∧ S.length = 256 ∧ (∀ s, s < 2 ^ c → gd S s = sumK b s c) ∧ (∀ s, s < v → gd S (s + 2 ^ c) = sumK b s c + gd b c) ∧ E 0 = SL b ∧ E 3 = .ptr 69206064 256 0 0 ∧ E 4 = I (usedK b c) ∧
        E 5 = I c ∧ E 6 = I (gd b c) ∧ E 8 = SL b ∧ E 9 = I 8 ∧ E 10 = I c ∧ E 16 = I (2 ^ c : Nat) ∧ E 17 = I v ∧ σ 69206064 = some ⟨83, 256, [.agg (S.map I)]⟩) (2 ^ c) ⟨0, S, by omega, hS, hall, fun s hs => by omega, ?_⟩ ?_
      · simp -implicitDefEqProofs (disch := omega) only [go_sem, ↓reduceIte, Nat.reduceEqDiff, Nat.reduceMul, Nat.reduceAdd, Nat.reduceDiv, Nat.reduceBEq, Nat.reduceLeDiff, Int.reduceToNat, Int.reduceNe, Int.reduceEq, Int.reduceLT, Int.reduceLE, Int.reduceBEq, Int.reduceBNe, ne_eq, not_true_eq_false, not_false_eq_true, decide_true, decide_false, List.length_map, h0, h3, h4, h8, h9, h10, mS, g2, e1]
        rfl
      · clear h0 h3 h4 h8 h9 h10 mS hall hS S E σ
        rintro k E σ ⟨v, S, hv, hS, hall, hnew, h0, h3, h4, h5, h6, h8, h9, h10, h16, h17, mS⟩
        simp -implicitDefEqProofs (disch := omega) only [go_sem, ↓reduceIte, Nat.reduceEqDiff, Nat.reduceMul, Nat.reduceAdd, Nat.reduceDiv, Nat.reduceBEq, Nat.reduceLeDiff, Int.reduceToNat, Int.reduceNe, Int.reduceEq, Int.reduceLT, Int.reduceLE, Int.reduceBEq, Int.reduceBNe, ne_eq, not_true_eq_false, not_false_eq_true, decide_true, decide_false, List.length_map, h0, h3, h4, h5, h6, h8, h9, h10, h16, h17, mS]
        refine branch_mk (fun hlv => ?_) (fun hlv => ?_)
        · have hv2 : v < 2 ^ c := by omega
          have e3 : bitsI .or .i64 (v : Int) ((2 ^ c : Nat) : Int) = ((v + 2 ^ c : Nat) : Int) := by rw [or_nat (by omega) (by omega), or_two hv2]
          have e4 := hall v hv2
          have hsl := sumK_le b hr v c (by omega)
          have hw : IntKind.i64.wrap (sumK b v c + gd b c) = sumK b v c + gd b c := wrap64_of (by omega)
          simp -implicitDefEqProofs (disch := omega) only [go_sem, ↓reduceIte, Nat.reduceEqDiff, Nat.reduceMul, Nat.reduceAdd, Nat.reduceDiv, Nat.reduceBEq, Nat.reduceLeDiff, Int.reduceToNat, Int.reduceNe, Int.reduceEq, Int.reduceLT, Int.reduceLE, Int.reduceBEq, Int.reduceBNe, ne_eq, not_true_eq_false, not_false_eq_true, decide_true, decide_false, List.length_map, h0, h3, h4, h5, h6, h8, h9, h10, h16, h17, mS, hS, e1, e3, e4, hw]
          refine againQ_mk (k - 1) (by omega) ⟨v + 1, S.set (v + 2 ^ c) (sumK b v c + gd b c), by omega, by simpa using hS, fun s hs => ?_, fun s hs => ?_, ?_⟩
          · rw [gd_set _ _ _ _ (by omega), if_neg (by omega)]; exact hall s hs
          · rw [gd_set _ _ _ _ (by omega)]
            by_cases e : s = v
            · subst e; rw [if_pos rfl]
            · rw [if_neg (by omega)]; exact hnew s (by omega)
          · simp -implicitDefEqProofs (disch := omega) only [go_sem, ↓reduceIte, Nat.reduceEqDiff, Nat.reduceMul, Nat.reduceAdd, Nat.reduceDiv, Nat.reduceBEq, Nat.reduceLeDiff, Int.reduceToNat, Int.reduceNe, Int.reduceEq, Int.reduceLT, Int.reduceLE, Int.reduceBEq, Int.reduceBNe, ne_eq, not_true_eq_false, not_false_eq_true, decide_true, decide_false, List.length_map, h0, h3, h4, h5, h6, h8, h9, h10, h16, h17, mS, hS]
            simp
        · have hv2 : v = 2 ^ c := by omega
          have hfin : ∀ s, s < 2 ^ (c + 1) → gd S s = sumK b s (c + 1) := fun s hs => by
            by_cases e : s < 2 ^ c
            · rw [sumK_low b e]; exact hall s e
            · obtain ⟨t, rfl⟩ : ∃ t, s = t + 2 ^ c := ⟨s - 2 ^ c, by omega⟩
              rw [Nat.pow_succ] at hs
              rw [sumK_new b (by omega)]; exact hnew t (by omega)
          simp -implicitDefEqProofs (disch := omega) only [go_sem, ↓reduceIte, Nat.reduceEqDiff, Nat.reduceMul, Nat.reduceAdd, Nat.reduceDiv, Nat.reduceBEq, Nat.reduceLeDiff, Int.reduceToNat, Int.reduceNe, Int.reduceEq, Int.reduceLT, Int.reduceLE, Int.reduceBEq, Int.reduceBNe, ne_eq, not_true_eq_false, not_false_eq_true, decide_true, decide_false, List.length_map, h0, h3, h4, h5, h6, h8, h9, h10, h16, h17, mS]
          refine branch_mk (fun hne => ?_) (fun hne => ?_)
          · have e5 : bitsI .or .i64 (usedK b c : Int) ((2 ^ c : Nat) : Int) = ((usedK b c ||| 2 ^ c : Nat) : Int) := or_nat (by omega) (by omega)
            have e6 : usedK b (c + 1) = usedK b c ||| 2 ^ c := by rw [usedK, if_neg (by omega)]
            simp -implicitDefEqProofs (disch := omega) only [go_sem, ↓reduceIte, Nat.reduceEqDiff, Nat.reduceMul, Nat.reduceAdd, Nat.reduceDiv, Nat.reduceBEq, Nat.reduceLeDiff, Int.reduceToNat, Int.reduceNe, Int.reduceEq, Int.reduceLT, Int.reduceLE, Int.reduceBEq, Int.reduceBNe, ne_eq, not_true_eq_false, not_false_eq_true, decide_true, decide_false, List.length_map, h0, h3, h4, h5, h6, h8, h9, h10, h16, h17, mS, e1, e5]
            refine againQ_mk (n - 1) (by omega) ⟨c + 1, S, by omega, hS, hfin, ?_⟩
            simp -implicitDefEqProofs (disch := omega) only [go_sem, ↓reduceIte, Nat.reduceEqDiff, Nat.reduceMul, Nat.reduceAdd, Nat.reduceDiv, Nat.reduceBEq, Nat.reduceLeDiff, Int.reduceToNat, Int.reduceNe, Int.reduceEq, Int.reduceLT, Int.reduceLE, Int.reduceBEq, Int.reduceBNe, ne_eq, not_true_eq_false, not_false_eq_true, decide_true, decide_false, List.length_map, h0, h3, h4, h5, h6, h8, h9, h10, h16, h17, mS, e6]
            simp
          · have e6 : usedK b (c + 1) = usedK b c := by rw [usedK, if_pos (by omega)]
            simp -implicitDefEqProofs (disch := omega) only [go_sem, ↓reduceIte, Nat.reduceEqDiff, Nat.reduceMul, Nat.reduceAdd, Nat.reduceDiv, Nat.reduceBEq, Nat.reduceLeDiff, Int.reduceToNat, Int.reduceNe, Int.reduceEq, Int.reduceLT, Int.reduceLE, Int.reduceBEq, Int.reduceBNe, ne_eq, not_true_eq_false, not_false_eq_true, decide_true, decide_false, List.length_map, h0, h3, h4, h5, h6, h8, h9, h10, h16, h17, mS]
            refine againQ_mk (n - 1) (by omega) ⟨c + 1, S, by omega, hS, hfin, ?_⟩
            simp -implicitDefEqProofs (disch := omega) only [go_sem, ↓reduceIte, Nat.reduceEqDiff, Nat.reduceMul, Nat.reduceAdd, Nat.reduceDiv, Nat.reduceBEq, Nat.reduceLeDiff, Int.reduceToNat, Int.reduceNe, Int.reduceEq, Int.reduceLT, Int.reduceLE, Int.reduceBEq, Int.reduceBNe, ne_eq, not_true_eq_false, not_false_eq_true, decide_true, decide_false, List.length_map, h0, h3, h4, h5, h6, h8, h9, h10, h16, h17, mS, e6]
            simp
    · have : c = 8 := by omega
      subst this
      have hL := groups_lok b S hS hall 256 (usedF b) [] (usedF_lt b) (usedF_lt b) (show KvOK b [] from fun p hp => by cases hp)
      have hk2 := kvF_ok 256 [] (usedF b) (usedF_lt b) (show KvOK b [] from fun p hp => by cases hp)
      have hnm2 := namesL_kv hk2
      unfold LKG at hL
      generalize kvF b 256 [] (usedF b) = kv2 at *
      generalize gF b 256 (usedF b) = g at *
      have hL : LOK Try.prog 43 (inI [69206064, 69206624]) ([.ptr 69206064 256 0 0, .mref 69206624, I (usedF b : Nat)] ++ []) (stO (LG S [])) (SL (gI g)) (stO (LG S kv2)) := hL
      rw [show usedK b 8 = usedF b from rfl] at h4
      simp -implicitDefEqProofs (disch := omega) only [go_sem, ↓reduceIte, Nat.reduceEqDiff, Nat.reduceMul, Nat.reduceAdd, Nat.reduceDiv, Nat.reduceBEq, Nat.reduceLeDiff, Int.reduceToNat, Int.reduceNe, Int.reduceEq, Int.reduceLT, Int.reduceLE, Int.reduceBEq, Int.reduceBNe, ne_eq, not_true_eq_false, not_false_eq_true, decide_true, decide_false, List.length_map, h0, h3, h4, h8, h9, h10, mS]
      refine makeMap_mk ?_
      simp -implicitDefEqProofs (disch := omega) only [go_sem, ↓reduceIte, Nat.reduceEqDiff, Nat.reduceMul, Nat.reduceAdd, Nat.reduceDiv, Nat.reduceBEq, Nat.reduceLeDiff, Int.reduceToNat, Int.reduceNe, Int.reduceEq, Int.reduceLT, Int.reduceLE, Int.reduceBEq, Int.reduceBNe, ne_eq, not_true_eq_false, not_false_eq_true, decide_true, decide_false, List.length_map, h0, h3, h4, h8, h9, h10, mS]
      refine callC_sem rfl ?_
      refine lent_mk [69206064, 69206624] hL ?_ ?_ ?_ ?_ ?_ ?_ ?_ (hsp := fun id h _ => List.contains_iff_mem.2 h)
      · simp -implicitDefEqProofs (disch := omega) only [go_sem, ↓reduceIte, Nat.reduceEqDiff, Nat.reduceMul, Nat.reduceAdd, Nat.reduceDiv, Nat.reduceBEq, Nat.reduceLeDiff, Int.reduceToNat, Int.reduceNe, Int.reduceEq, Int.reduceLT, Int.reduceLE, Int.reduceBEq, Int.reduceBNe, ne_eq, not_true_eq_false, not_false_eq_true, decide_true, decide_false, List.length_map]
      · simp -implicitDefEqProofs (disch := omega) only [go_sem, ↓reduceIte, Nat.reduceEqDiff, Nat.reduceMul, Nat.reduceAdd, Nat.reduceDiv, Nat.reduceBEq, Nat.reduceLeDiff, Int.reduceToNat, Int.reduceNe, Int.reduceEq, Int.reduceLT, Int.reduceLE, Int.reduceBEq, Int.reduceBNe, ne_eq, not_true_eq_false, not_false_eq_true, decide_true, decide_false, List.length_map, h3, h4]
      · simp -implicitDefEqProofs (disch := omega) only [go_sem, ↓reduceIte, Nat.reduceEqDiff, Nat.reduceMul, Nat.reduceAdd, Nat.reduceDiv, Nat.reduceBEq, Nat.reduceLeDiff, Int.reduceToNat, Int.reduceNe, Int.reduceEq, Int.reduceLT, Int.reduceLE, Int.reduceBEq, Int.reduceBNe, ne_eq, not_true_eq_false, not_false_eq_true, decide_true, decide_false, List.length_map, mS]
      · simp -implicitDefEqProofs (disch := omega) only [go_sem, ↓reduceIte, Nat.reduceEqDiff, Nat.reduceMul, Nat.reduceAdd, Nat.reduceDiv, Nat.reduceBEq, Nat.reduceLeDiff, Int.reduceToNat, Int.reduceNe, Int.reduceEq, Int.reduceLT, Int.reduceLE, Int.reduceBEq, Int.reduceBNe, ne_eq, not_true_eq_false, not_false_eq_true, decide_true, decide_false, List.length_map]
      · simp -implicitDefEqProofs (disch := omega) only [go_sem, ↓reduceIte, Nat.reduceEqDiff, Nat.reduceMul, Nat.reduceAdd, Nat.reduceDiv, Nat.reduceBEq, Nat.reduceLeDiff, Int.reduceToNat, Int.reduceNe, Int.reduceEq, Int.reduceLT, Int.reduceLE, Int.reduceBEq, Int.reduceBNe, ne_eq, not_true_eq_false, not_false_eq_true, decide_true, decide_false, List.length_map]
      · simp -implicitDefEqProofs (disch := omega) only [go_sem, ↓reduceIte, Nat.reduceEqDiff, Nat.reduceMul, Nat.reduceAdd, Nat.reduceDiv, Nat.reduceBEq, Nat.reduceLeDiff, Int.reduceToNat, Int.reduceNe, Int.reduceEq, Int.reduceLT, Int.reduceLE, Int.reduceBEq, Int.reduceBNe, ne_eq, not_true_eq_false, not_false_eq_true, decide_true, decide_false, List.length_map, hnm2]
      · simp -implicitDefEqProofs (disch := omega) only [go_sem, ↓reduceIte, Nat.reduceEqDiff, Nat.reduceMul, Nat.reduceAdd, Nat.reduceDiv, Nat.reduceBEq, Nat.reduceLeDiff, Int.reduceToNat, Int.reduceNe, Int.reduceEq, Int.reduceLT, Int.reduceLE, Int.reduceBEq, Int.reduceBNe, ne_eq, not_true_eq_false, not_false_eq_true, decide_true, decide_false, List.length_map, h0, h3, h4, h8, h9, h10, mS, Try.results32]
end Go.Proofs.Ytcllccpeechdhaa
set_option maxRecDepth 100000
namespace Go.Proofs.Ytcllccpeechdhaa
open Go.Vai Go Go.Proofs
def settR (b : List Int) : AV := if goodF b = true then .tup [.new 39 3 ((settF b (usedF b)).map DP), Er 0] else .tup [.new 39 3 [], Er 390]
set_option maxHeartbeats 1000000 in
theorem Settle_ev (b : List Int) (hl : b.length ≤ 9223372036854775807) : Ev Try.prog 17 [SL b] (settR b) := by
  refine ev_of Try.func17 rfl (by kernel_rfl) moN (Nat.le_of_ble_eq_true rfl) ?_
  simp -implicitDefEqProofs (disch := omega) only [go_sem, ↓reduceIte, Nat.reduceEqDiff, Nat.reduceMul, Nat.reduceAdd, Nat.reduceDiv, Nat.reduceBEq, Nat.reduceLeDiff, Int.reduceToNat, Int.reduceNe, Int.reduceEq, Int.reduceLT, Int.reduceLE, Int.reduceBEq, Int.reduceBNe, ne_eq, not_true_eq_false, not_false_eq_true, decide_true, decide_false, List.length_map, Try.ntmps17]
  refine callC_at (isGood_evN b hl) ?_
  simp -implicitDefEqProofs (disch := omega) only [go_sem, ↓reduceIte, Nat.reduceEqDiff, Nat.reduceMul, Nat.reduceAdd, Nat.reduceDiv, Nat.reduceBEq, Nat.reduceLeDiff, Int.reduceToNat, Int.reduceNe, Int.reduceEq, Int.reduceLT, Int.reduceLE, Int.reduceBEq, Int.reduceBNe, ne_eq, not_true_eq_false, not_false_eq_true, decide_true, decide_false, List.length_map]
  refine branch_mk (fun hb => ?_) (fun hb => ?_)
  · simp -implicitDefEqProofs (disch := omega) only [go_sem, ↓reduceIte, Nat.reduceEqDiff, Nat.reduceMul, Nat.reduceAdd, Nat.reduceDiv, Nat.reduceBEq, Nat.reduceLeDiff, Int.reduceToNat, Int.reduceNe, Int.reduceEq, Int.reduceLT, Int.reduceLE, Int.reduceBEq, Int.reduceBNe, ne_eq, not_true_eq_false, not_false_eq_true, decide_true, decide_false, List.length_map, Try.results17]
    simp [settR, hb]
  · have hb : goodF b = true := by simpa using hb
    obtain ⟨h8, hr, _⟩ := good_rng hb
    rw [settR, if_pos hb]
    simp -implicitDefEqProofs (disch := omega) only [go_sem, ↓reduceIte, Nat.reduceEqDiff, Nat.reduceMul, Nat.reduceAdd, Nat.reduceDiv, Nat.reduceBEq, Nat.reduceLeDiff, Int.reduceToNat, Int.reduceNe, Int.reduceEq, Int.reduceLT, Int.reduceLE, Int.reduceBEq, Int.reduceBNe, ne_eq, not_true_eq_false, not_false_eq_true, decide_true, decide_false, List.length_map]
    refine callC_at (clone_ev b (by omega) (by omega)) ?_
    simp -implicitDefEqProofs (disch := omega) only [go_sem, ↓reduceIte, Nat.reduceEqDiff, Nat.reduceMul, Nat.reduceAdd, Nat.reduceDiv, Nat.reduceBEq, Nat.reduceLeDiff, Int.reduceToNat, Int.reduceNe, Int.reduceEq, Int.reduceLT, Int.reduceLE, Int.reduceBEq, Int.reduceBNe, ne_eq, not_true_eq_false, not_false_eq_true, decide_true, decide_false, List.length_map, h8]
    have hgr := grouped_ev b hb
    have hat := fun i => sett_at hb i
    have hset : settF b (usedF b) = ((grpsF b).foldl (fun st g => payF g st) (b, [])).2 := rfl
    have h256 : ∀ i, i < (grpsF b).length → gd (grpsF b) i < 256 := fun i hi => (grps_has hb (gd_mem _ i hi)).1
    have hgl : (grpsF b).length ≤ 8 := by have := (settF_spec hb).2.2; have h8' := nzK_le b 8; unfold nzF at this; omega
    rw [hset]
    rw [show gF b 256 (usedF b) = grpsF b from rfl] at hgr
    have htf := take_fold (b := b) (grpsF b)
    generalize grpsF b = gs at *
    refine callC_at hgr ?_
    simp -implicitDefEqProofs (disch := omega) only [go_sem, ↓reduceIte, Nat.reduceEqDiff, Nat.reduceMul, Nat.reduceAdd, Nat.reduceDiv, Nat.reduceBEq, Nat.reduceLeDiff, Int.reduceToNat, Int.reduceNe, Int.reduceEq, Int.reduceLT, Int.reduceLE, Int.reduceBEq, Int.reduceBNe, ne_eq, not_true_eq_false, not_false_eq_true, decide_true, decide_false, List.length_map, h8]
    refine loopC_mk (fun n E σ => ∃ (i : Nat) (l : List Int) (o : List Deb), i + n = gs.length ∧ (l, o) = (gs.take i).foldl (fun st g => payF g st) (b, []) ∧ l.length = 8 ∧ o.length ≤ 8 ∧ E 4 = .own 37748800 3 0 o.length ∧ E 5 = .ptr 37748816 1 0 0 ∧
      E 6 = .clo 29 [.ptr 37748816 1 0 0] ∧ E 19 = SL (gI gs) ∧ E 20 = I gs.length ∧ E 21 = I i ∧ σ 37748800 = some ⟨39, 3, o.map DP⟩ ∧ σ 37748816 = some ⟨41, 1, [.own 37748992 1 0 8]⟩ ∧ σ 37748992 = some ⟨3, 1, l.map I⟩) gs.length ⟨0, b, [], by omega, rfl, h8, by simp, ?_⟩ ?_
    · simp -implicitDefEqProofs (disch := omega) only [go_sem, ↓reduceIte, Nat.reduceEqDiff, Nat.reduceMul, Nat.reduceAdd, Nat.reduceDiv, Nat.reduceBEq, Nat.reduceLeDiff, Int.reduceToNat, Int.reduceNe, Int.reduceEq, Int.reduceLT, Int.reduceLE, Int.reduceBEq, Int.reduceBNe, ne_eq, not_true_eq_false, not_false_eq_true, decide_true, decide_false, List.length_map, h8]
      rfl
    · rintro n E σ ⟨i, l, o, hi, hst, hl8, ho, h4, h5, h6, h19, h20, h21, m4, m5, mL⟩
      simp -implicitDefEqProofs (disch := omega) only [go_sem, ↓reduceIte, Nat.reduceEqDiff, Nat.reduceMul, Nat.reduceAdd, Nat.reduceDiv, Nat.reduceBEq, Nat.reduceLeDiff, Int.reduceToNat, Int.reduceNe, Int.reduceEq, Int.reduceLT, Int.reduceLE, Int.reduceBEq, Int.reduceBNe, ne_eq, not_true_eq_false, not_false_eq_true, decide_true, decide_false, List.length_map, h4, h5, h6, h19, h20, h21, m4, m5, mL]
      refine branch_mk (fun hlt => ?_) (fun hlt => ?_)
      · have hok := hat i (by omega)
        rw [← hst] at hok
        obtain ⟨hok, hcnt⟩ := hok
        simp only at hok hcnt
        have hg8 := h256 i (by omega)
        have hgi : gd (gI gs) i = ((gd gs i : Nat) : Int) := by
          have := gd_some gs i (by omega)
          rw [gd, List.getD_eq_getElem?_getD, List.getElem?_map, this]; rfl
        simp -implicitDefEqProofs (disch := omega) only [go_sem, ↓reduceIte, Nat.reduceEqDiff, Nat.reduceMul, Nat.reduceAdd, Nat.reduceDiv, Nat.reduceBEq, Nat.reduceLeDiff, Int.reduceToNat, Int.reduceNe, Int.reduceEq, Int.reduceLT, Int.reduceLE, Int.reduceBEq, Int.reduceBNe, ne_eq, not_true_eq_false, not_false_eq_true, decide_true, decide_false, List.length_map, h4, h5, h6, h19, h20, h21, m4, m5, mL, hgi]
        have htf := htf i (by omega)
        rw [← hst] at htf
        generalize gd gs i = g at *
        refine loopC_mk (fun k E σ => ∃ (l' : List Int) (o' : List Deb), nzF l' = k ∧ payF g (l', o') = payF g (l, o) ∧ GrpOK g l' ∧ o'.length + nzF l' ≤ 8 ∧ E 4 = .own 37748800 3 0 o'.length ∧ E 5 = .ptr 37748816 1 0 0 ∧
          E 6 = .clo 29 [.ptr 37748816 1 0 0] ∧ E 8 = I (g : Nat) ∧ E 19 = SL (gI gs) ∧ E 20 = I gs.length ∧ E 21 = I i ∧ σ 37748800 = some ⟨39, 3, o'.map DP⟩ ∧ σ 37748816 = some ⟨41, 1, [.own 37748992 1 0 8]⟩ ∧ σ 37748992 = some ⟨3, 1, l'.map I⟩) (nzF l) ⟨l, o, rfl, rfl, hok, hcnt, ?_⟩ ?_
        · simp -implicitDefEqProofs (disch := omega) only [go_sem, ↓reduceIte, Nat.reduceEqDiff, Nat.reduceMul, Nat.reduceAdd, Nat.reduceDiv, Nat.reduceBEq, Nat.reduceLeDiff, Int.reduceToNat, Int.reduceNe, Int.reduceEq, Int.reduceLT, Int.reduceLE, Int.reduceBEq, Int.reduceBNe, ne_eq, not_true_eq_false, not_false_eq_true, decide_true, decide_false, List.length_map, h4, h5, h6, h19, h20, h21, m4, m5, mL, hgi]
        · clear h4 h5 h6 h19 h20 h21 m4 m5 mL E σ
          rintro k E σ ⟨l', o', hk, hpay, hok', hcnt', h4, h5, h6, h8', h19, h20, h21, m4, m5, mL⟩
          have hl8' := hok'.len
          have e8 : l'.take 8 = l' := List.take_of_length_le (by omega)
          simp -implicitDefEqProofs (disch := omega) only [go_sem, ↓reduceIte, Nat.reduceEqDiff, Nat.reduceMul, Nat.reduceAdd, Nat.reduceDiv, Nat.reduceBEq, Nat.reduceLeDiff, Int.reduceToNat, Int.reduceNe, Int.reduceEq, Int.reduceLT, Int.reduceLE, Int.reduceBEq, Int.reduceBNe, ne_eq, not_true_eq_false, not_false_eq_true, decide_true, decide_false, List.length_map, h4, h5, h6, h8', h19, h20, h21, m4, m5, mL, hl8', e8]
          refine callC_at (next_ev l' g (-1) hl8' hg8 (.inr rfl) hok'.rng) ?_
          simp -implicitDefEqProofs (disch := omega) only [go_sem, ↓reduceIte, Nat.reduceEqDiff, Nat.reduceMul, Nat.reduceAdd, Nat.reduceDiv, Nat.reduceBEq, Nat.reduceLeDiff, Int.reduceToNat, Int.reduceNe, Int.reduceEq, Int.reduceLT, Int.reduceLE, Int.reduceBEq, Int.reduceBNe, ne_eq, not_true_eq_false, not_false_eq_true, decide_true, decide_false, List.length_map, h4, h5, h6, h8', h19, h20, h21, m4, m5, mL, hl8', e8]
          refine callC_at (next_ev l' g 1 hl8' hg8 (.inl rfl) hok'.rng) ?_
          simp -implicitDefEqProofs (disch := omega) only [go_sem, ↓reduceIte, Nat.reduceEqDiff, Nat.reduceMul, Nat.reduceAdd, Nat.reduceDiv, Nat.reduceBEq, Nat.reduceLeDiff, Int.reduceToNat, Int.reduceNe, Int.reduceEq, Int.reduceLT, Int.reduceLE, Int.reduceBEq, Int.reduceBNe, ne_eq, not_true_eq_false, not_false_eq_true, decide_true, decide_false, List.length_map, h4, h5, h6, h8', h19, h20, h21, m4, m5, mL, hl8', e8]
          refine branch_mk (fun hneg => ?_) (fun hneg => ?_)
          · have hneg : frmF l' g < 0 := hneg
            rw [payF_stop hneg] at hpay
            simp -implicitDefEqProofs (disch := omega) only [go_sem, ↓reduceIte, Nat.reduceEqDiff, Nat.reduceMul, Nat.reduceAdd, Nat.reduceDiv, Nat.reduceBEq, Nat.reduceLeDiff, Int.reduceToNat, Int.reduceNe, Int.reduceEq, Int.reduceLT, Int.reduceLE, Int.reduceBEq, Int.reduceBNe, ne_eq, not_true_eq_false, not_false_eq_true, decide_true, decide_false, List.length_map, h4, h5, h6, h8', h19, h20, h21, m4, m5, mL, hl8', e8]
            refine againQ_mk (n - 1) (by omega) ⟨i + 1, l', o', by omega, hpay.trans htf.symm, hl8', by omega, ?_⟩
            simp -implicitDefEqProofs (disch := omega) only [go_sem, ↓reduceIte, Nat.reduceEqDiff, Nat.reduceMul, Nat.reduceAdd, Nat.reduceDiv, Nat.reduceBEq, Nat.reduceLeDiff, Int.reduceToNat, Int.reduceNe, Int.reduceEq, Int.reduceLT, Int.reduceLE, Int.reduceBEq, Int.reduceBNe, ne_eq, not_true_eq_false, not_false_eq_true, decide_true, decide_false, List.length_map, h4, h5, h6, h8', h19, h20, h21, m4, m5, mL, hl8', e8]
            simp
          · have hneg : ¬ frmF l' g < 0 := hneg
            obtain ⟨f, t, hp⟩ := frm_pos hok' hneg
            obtain ⟨a1, a2, a3, a4, a5, a6, ap, al, aat⟩ := pay_at hok' hp
            have hz := (pay_nz hok' hp).1
            have ef : selF l' g (-1) 0 8 = (f : Int) := hp.frm
            have et : selF l' g 1 0 8 = (t : Int) := hp.to
            have f8 := hp.f8
            have t8 := hp.t8
            have rf := hok'.rng f f8
            have rt := hok'.rng t t8
            have wn : IntKind.i64.wrap (0 - gd l' f) = -(gd l' f) := by rw [Int.zero_sub]; exact wrap64_of (by omega)
            have em : min (-(gd l' f)) (gd l' t) = amtFN l' g := by unfold amtFN; rw [hp.frm, hp.to, Int.toNat_natCast, Int.toNat_natCast]
            have e1 : IntKind.i64.wrap (gd l' f + amtFN l' g) = gd l' f + amtFN l' g := wrap64_of (by omega)
            have e2 : gd (l'.set f (gd l' f + amtFN l' g)) t = gd l' t := by rw [gd_set _ _ _ _ (by omega), if_neg (fun e => a6 e.symm)]
            have e3 : IntKind.i64.wrap (gd l' t - amtFN l' g) = gd l' t - amtFN l' g := wrap64_of (by omega)
            have ep2 : payL l' g = (l'.set f (gd l' f + amtFN l' g)).set t (gd l' t - amtFN l' g) := by
              rw [ap]; unfold addF; rw [Int.toNat_natCast, Int.toNat_natCast, e2, Int.sub_eq_add_neg]
            have ed : payD l' g = ((f : Int), (t : Int), amtFN l' g) := by unfold payD; rw [hp.frm, hp.to]
            have hstep := payF_step (o := o') hok' hneg
            rw [ed] at hstep
            simp -implicitDefEqProofs (disch := omega) only [go_sem, ↓reduceIte, Nat.reduceEqDiff, Nat.reduceMul, Nat.reduceAdd, Nat.reduceDiv, Nat.reduceBEq, Nat.reduceLeDiff, Int.reduceToNat, Int.reduceNe, Int.reduceEq, Int.reduceLT, Int.reduceLE, Int.reduceBEq, Int.reduceBNe, ne_eq, not_true_eq_false, not_false_eq_true, decide_true, decide_false, List.length_map, h4, h5, h6, h8', h19, h20, h21, m4, m5, mL, hl8', e8, ef, et, wn, em, e1, e2, e3]
            refine againQ_mk (nzF (payL l' g)) (by omega) ⟨payL l' g, o' ++ [((f : Int), (t : Int), amtFN l' g)], rfl, hstep.symm.trans hpay, pay_ok hok' hp, by rw [List.length_append, List.length_singleton]; omega, ?_⟩
            simp -implicitDefEqProofs (disch := omega) only [go_sem, ↓reduceIte, Nat.reduceEqDiff, Nat.reduceMul, Nat.reduceAdd, Nat.reduceDiv, Nat.reduceBEq, Nat.reduceLeDiff, Int.reduceToNat, Int.reduceNe, Int.reduceEq, Int.reduceLT, Int.reduceLE, Int.reduceBEq, Int.reduceBNe, ne_eq, not_true_eq_false, not_false_eq_true, decide_true, decide_false, List.length_map, h4, h5, h6, h8', h19, h20, h21, m4, m5, mL, hl8', e8, ep2]
      · have : i = gs.length := by omega
        subst this
        rw [List.take_length] at hst
        rw [← hst]
        simp -implicitDefEqProofs (disch := omega) only [go_sem, ↓reduceIte, Nat.reduceEqDiff, Nat.reduceMul, Nat.reduceAdd, Nat.reduceDiv, Nat.reduceBEq, Nat.reduceLeDiff, Int.reduceToNat, Int.reduceNe, Int.reduceEq, Int.reduceLT, Int.reduceLE, Int.reduceBEq, Int.reduceBNe, ne_eq, not_true_eq_false, not_false_eq_true, decide_true, decide_false, List.length_map, h4, h5, h6, h19, h20, h21, m4, m5, mL, Try.results17]
end Go.Proofs.Ytcllccpeechdhaa
set_option maxRecDepth 100000
namespace Go.Proofs.Ytcllccpeechdhaa
open Go.Vai Go Go.Proofs
def fewT (b : List Int) : AV := if goodF b = true then .tup [I (fewN b), Er 0] else .tup [I 0, Er 390]
theorem Fewest_ev (b : List Int) (hl : b.length ≤ 9223372036854775807) : Ev Try.prog 16 [SL b] (fewT b) := by
  refine ev_of Try.func16 rfl (by kernel_rfl) moN (Nat.le_of_ble_eq_true rfl) ?_
  simp -implicitDefEqProofs (disch := omega) only [go_sem, ↓reduceIte, Nat.reduceEqDiff, Nat.reduceMul, Nat.reduceAdd, Nat.reduceDiv, Nat.reduceBEq, Nat.reduceLeDiff, Int.reduceToNat, Int.reduceNe, Int.reduceEq, Int.reduceLT, Int.reduceLE, Int.reduceBEq, Int.reduceBNe, ne_eq, not_true_eq_false, not_false_eq_true, decide_true, decide_false, List.length_map, Try.ntmps16]
  have h := Settle_ev b hl
  unfold settR at h
  unfold fewT
  by_cases hb : goodF b = true
  · rw [if_pos hb] at h ⊢
    rw [← settF_length hb]
    generalize settF b (usedF b) = s at *
    refine callC_at h ?_
    simp -implicitDefEqProofs (disch := omega) only [go_sem, ↓reduceIte, Nat.reduceEqDiff, Nat.reduceMul, Nat.reduceAdd, Nat.reduceDiv, Nat.reduceBEq, Nat.reduceLeDiff, Int.reduceToNat, Int.reduceNe, Int.reduceEq, Int.reduceLT, Int.reduceLE, Int.reduceBEq, Int.reduceBNe, ne_eq, not_true_eq_false, not_false_eq_true, decide_true, decide_false, List.length_map, Try.results16]
  · rw [if_neg hb] at h ⊢
    refine callC_at h ?_
    simp -implicitDefEqProofs (disch := omega) only [go_sem, ↓reduceIte, Nat.reduceEqDiff, Nat.reduceMul, Nat.reduceAdd, Nat.reduceDiv, Nat.reduceBEq, Nat.reduceLeDiff, Int.reduceToNat, Int.reduceNe, Int.reduceEq, Int.reduceLT, Int.reduceLE, Int.reduceBEq, Int.reduceBNe, ne_eq, not_true_eq_false, not_false_eq_true, decide_true, decide_false, List.length_map, Try.results16]
    rfl
end Go.Proofs.Ytcllccpeechdhaa
set_option maxRecDepth 100000
namespace Go.Proofs.Ytcllccpeechdhaa
open Go.Vai Go Go.Proofs
set_option maxHeartbeats 2000000 in
theorem sane_ev : Ev Try.prog 4 [] (B true) := by
  have h14 := bal_ev exL (by decide)
  rw [balR, if_pos ex_debts, ex_bal] at h14
  have h16 := Pairs_ev exL (by decide)
  rw [pairsT, if_pos ex_debts, ex_pairs] at h16
  have h18 := Cycle_ev exL (by decide)
  rw [cyF, if_pos ex_debts, ex_cyc, cycB] at h18
  have h20 := Round_ev exL (by decide)
  rw [roundT, if_pos ex_debts, ex_round] at h20
  have h28 := Fewest_ev exB (by decide)
  rw [fewT, if_pos ex_good.1, ex_few2] at h28
  have h30 := Settle_ev exB (by decide)
  rw [settR, if_pos ex_good.1] at h30
  have hs := settF_length ex_good.1
  rw [ex_few2] at hs
  have hck := settF_check ex_good.1
  generalize settF exB (usedF exB) = s at *
  have h31 := check_ev exB s (by decide) (by omega)
  rw [hck] at h31
  have hC := Fewest_ev exC (by decide)
  rw [fewT, if_pos ex_good.2.1, ex_few3] at hC
  have hD := Fewest_ev exD (by decide)
  rw [fewT, if_pos ex_good.2.2.1, ex_few4] at hD
  have hE := Fewest_ev [1, 0, 0, 0, 0, 0, 0, 0] (by decide)
  rw [fewT, ex_good.2.2.2] at hE
  have k1 := check_ev exB [(0, 2, 2), (0, 1, 3)] (by decide) (by decide)
  rw [ex_check1] at k1
  have k2 := check_ev exB [(0, 2, 5)] (by decide) (by decide)
  rw [ex_check2] at k2
  have v1 := valid_evN exL (by decide)
  rw [ex_debts] at v1
  have v2 := valid_evN [(0, 0, 0)] (by decide)
  rw [ex_bad] at v2
  have i1 := ints_ev exB exB (by decide) (by decide)
  have s1 := same_ev [(0, 1, 11), (1, 2, 8), (2, 0, 6)] [(0, 1, 11), (1, 2, 8), (2, 0, 6)] (by decide) (by decide)
  have i2 := ints_ev [0, 1, 2] [0, 1, 2] (by decide) (by decide)
  have s2 := same_ev [(0, 1, 5), (1, 2, 2)] [(0, 1, 5), (1, 2, 2)] (by decide) (by decide)
  rw [decide_eq_true rfl] at i1 s1 i2 s2
  refine ev_of Try.func4 rfl (by kernel_rfl) moN (Nat.le_of_ble_eq_true rfl) ?_
  simp -implicitDefEqProofs (disch := omega) only [go_sem, ↓reduceIte, Nat.reduceEqDiff, Nat.reduceMul, Nat.reduceAdd, Nat.reduceDiv, Nat.reduceBEq, Nat.reduceLeDiff, Int.reduceToNat, Int.reduceNe, Int.reduceEq, Int.reduceLT, Int.reduceLE, Int.reduceBEq, Int.reduceBNe, ne_eq, not_true_eq_false, not_false_eq_true, decide_true, decide_false, List.length_map, Try.ntmps4]
  refine callC_at h14 ?_
  simp -implicitDefEqProofs (disch := omega) only [go_sem, ↓reduceIte, Nat.reduceEqDiff, Nat.reduceMul, Nat.reduceAdd, Nat.reduceDiv, Nat.reduceBEq, Nat.reduceLeDiff, Int.reduceToNat, Int.reduceNe, Int.reduceEq, Int.reduceLT, Int.reduceLE, Int.reduceBEq, Int.reduceBNe, ne_eq, not_true_eq_false, not_false_eq_true, decide_true, decide_false, List.length_map]
  refine callC_at h16 ?_
  simp -implicitDefEqProofs (disch := omega) only [go_sem, ↓reduceIte, Nat.reduceEqDiff, Nat.reduceMul, Nat.reduceAdd, Nat.reduceDiv, Nat.reduceBEq, Nat.reduceLeDiff, Int.reduceToNat, Int.reduceNe, Int.reduceEq, Int.reduceLT, Int.reduceLE, Int.reduceBEq, Int.reduceBNe, ne_eq, not_true_eq_false, not_false_eq_true, decide_true, decide_false, List.length_map]
  refine callC_at h18 ?_
  simp -implicitDefEqProofs (disch := omega) only [go_sem, ↓reduceIte, Nat.reduceEqDiff, Nat.reduceMul, Nat.reduceAdd, Nat.reduceDiv, Nat.reduceBEq, Nat.reduceLeDiff, Int.reduceToNat, Int.reduceNe, Int.reduceEq, Int.reduceLT, Int.reduceLE, Int.reduceBEq, Int.reduceBNe, ne_eq, not_true_eq_false, not_false_eq_true, decide_true, decide_false, List.length_map]
  refine callC_at h20 ?_
  simp -implicitDefEqProofs (disch := omega) only [go_sem, ↓reduceIte, Nat.reduceEqDiff, Nat.reduceMul, Nat.reduceAdd, Nat.reduceDiv, Nat.reduceBEq, Nat.reduceLeDiff, Int.reduceToNat, Int.reduceNe, Int.reduceEq, Int.reduceLT, Int.reduceLE, Int.reduceBEq, Int.reduceBNe, ne_eq, not_true_eq_false, not_false_eq_true, decide_true, decide_false, List.length_map]
  refine callC_at h28 ?_
  simp -implicitDefEqProofs (disch := omega) only [go_sem, ↓reduceIte, Nat.reduceEqDiff, Nat.reduceMul, Nat.reduceAdd, Nat.reduceDiv, Nat.reduceBEq, Nat.reduceLeDiff, Int.reduceToNat, Int.reduceNe, Int.reduceEq, Int.reduceLT, Int.reduceLE, Int.reduceBEq, Int.reduceBNe, ne_eq, not_true_eq_false, not_false_eq_true, decide_true, decide_false, List.length_map]
  refine callC_at h30 ?_
  simp -implicitDefEqProofs (disch := omega) only [go_sem, ↓reduceIte, Nat.reduceEqDiff, Nat.reduceMul, Nat.reduceAdd, Nat.reduceDiv, Nat.reduceBEq, Nat.reduceLeDiff, Int.reduceToNat, Int.reduceNe, Int.reduceEq, Int.reduceLT, Int.reduceLE, Int.reduceBEq, Int.reduceBNe, ne_eq, not_true_eq_false, not_false_eq_true, decide_true, decide_false, List.length_map, hs]
  refine branch_r (by simp) ?_
  simp -implicitDefEqProofs (disch := omega) only [go_sem, ↓reduceIte, Nat.reduceEqDiff, Nat.reduceMul, Nat.reduceAdd, Nat.reduceDiv, Nat.reduceBEq, Nat.reduceLeDiff, Int.reduceToNat, Int.reduceNe, Int.reduceEq, Int.reduceLT, Int.reduceLE, Int.reduceBEq, Int.reduceBNe, ne_eq, not_true_eq_false, not_false_eq_true, decide_true, decide_false, List.length_map, hs]
  refine branch_r (by simp) ?_
  simp -implicitDefEqProofs (disch := omega) only [go_sem, ↓reduceIte, Nat.reduceEqDiff, Nat.reduceMul, Nat.reduceAdd, Nat.reduceDiv, Nat.reduceBEq, Nat.reduceLeDiff, Int.reduceToNat, Int.reduceNe, Int.reduceEq, Int.reduceLT, Int.reduceLE, Int.reduceBEq, Int.reduceBNe, ne_eq, not_true_eq_false, not_false_eq_true, decide_true, decide_false, List.length_map, hs]
  refine callC_at h31 ?_
  simp -implicitDefEqProofs (disch := omega) only [go_sem, ↓reduceIte, Nat.reduceEqDiff, Nat.reduceMul, Nat.reduceAdd, Nat.reduceDiv, Nat.reduceBEq, Nat.reduceLeDiff, Int.reduceToNat, Int.reduceNe, Int.reduceEq, Int.reduceLT, Int.reduceLE, Int.reduceBEq, Int.reduceBNe, ne_eq, not_true_eq_false, not_false_eq_true, decide_true, decide_false, List.length_map]
  refine callC_at hC ?_
  simp -implicitDefEqProofs (disch := omega) only [go_sem, ↓reduceIte, Nat.reduceEqDiff, Nat.reduceMul, Nat.reduceAdd, Nat.reduceDiv, Nat.reduceBEq, Nat.reduceLeDiff, Int.reduceToNat, Int.reduceNe, Int.reduceEq, Int.reduceLT, Int.reduceLE, Int.reduceBEq, Int.reduceBNe, ne_eq, not_true_eq_false, not_false_eq_true, decide_true, decide_false, List.length_map]
  refine callC_at hD ?_
  simp -implicitDefEqProofs (disch := omega) only [go_sem, ↓reduceIte, Nat.reduceEqDiff, Nat.reduceMul, Nat.reduceAdd, Nat.reduceDiv, Nat.reduceBEq, Nat.reduceLeDiff, Int.reduceToNat, Int.reduceNe, Int.reduceEq, Int.reduceLT, Int.reduceLE, Int.reduceBEq, Int.reduceBNe, ne_eq, not_true_eq_false, not_false_eq_true, decide_true, decide_false, List.length_map]
  refine callC_at hE ?_
  simp -implicitDefEqProofs (disch := omega) only [go_sem, ↓reduceIte, Nat.reduceEqDiff, Nat.reduceMul, Nat.reduceAdd, Nat.reduceDiv, Nat.reduceBEq, Nat.reduceLeDiff, Int.reduceToNat, Int.reduceNe, Int.reduceEq, Int.reduceLT, Int.reduceLE, Int.reduceBEq, Int.reduceBNe, ne_eq, not_true_eq_false, not_false_eq_true, decide_true, decide_false, List.length_map]
  refine callC_at i1 ?_
  simp -implicitDefEqProofs (disch := omega) only [go_sem, ↓reduceIte, Nat.reduceEqDiff, Nat.reduceMul, Nat.reduceAdd, Nat.reduceDiv, Nat.reduceBEq, Nat.reduceLeDiff, Int.reduceToNat, Int.reduceNe, Int.reduceEq, Int.reduceLT, Int.reduceLE, Int.reduceBEq, Int.reduceBNe, ne_eq, not_true_eq_false, not_false_eq_true, decide_true, decide_false, List.length_map]
  refine callC_at s1 ?_
  simp -implicitDefEqProofs (disch := omega) only [go_sem, ↓reduceIte, Nat.reduceEqDiff, Nat.reduceMul, Nat.reduceAdd, Nat.reduceDiv, Nat.reduceBEq, Nat.reduceLeDiff, Int.reduceToNat, Int.reduceNe, Int.reduceEq, Int.reduceLT, Int.reduceLE, Int.reduceBEq, Int.reduceBNe, ne_eq, not_true_eq_false, not_false_eq_true, decide_true, decide_false, List.length_map]
  refine callC_at i2 ?_
  simp -implicitDefEqProofs (disch := omega) only [go_sem, ↓reduceIte, Nat.reduceEqDiff, Nat.reduceMul, Nat.reduceAdd, Nat.reduceDiv, Nat.reduceBEq, Nat.reduceLeDiff, Int.reduceToNat, Int.reduceNe, Int.reduceEq, Int.reduceLT, Int.reduceLE, Int.reduceBEq, Int.reduceBNe, ne_eq, not_true_eq_false, not_false_eq_true, decide_true, decide_false, List.length_map]
  refine callC_at s2 ?_
  simp -implicitDefEqProofs (disch := omega) only [go_sem, ↓reduceIte, Nat.reduceEqDiff, Nat.reduceMul, Nat.reduceAdd, Nat.reduceDiv, Nat.reduceBEq, Nat.reduceLeDiff, Int.reduceToNat, Int.reduceNe, Int.reduceEq, Int.reduceLT, Int.reduceLE, Int.reduceBEq, Int.reduceBNe, ne_eq, not_true_eq_false, not_false_eq_true, decide_true, decide_false, List.length_map]
  refine callC_at k1 ?_
  simp -implicitDefEqProofs (disch := omega) only [go_sem, ↓reduceIte, Nat.reduceEqDiff, Nat.reduceMul, Nat.reduceAdd, Nat.reduceDiv, Nat.reduceBEq, Nat.reduceLeDiff, Int.reduceToNat, Int.reduceNe, Int.reduceEq, Int.reduceLT, Int.reduceLE, Int.reduceBEq, Int.reduceBNe, ne_eq, not_true_eq_false, not_false_eq_true, decide_true, decide_false, List.length_map]
  refine callC_at k2 ?_
  simp -implicitDefEqProofs (disch := omega) only [go_sem, ↓reduceIte, Nat.reduceEqDiff, Nat.reduceMul, Nat.reduceAdd, Nat.reduceDiv, Nat.reduceBEq, Nat.reduceLeDiff, Int.reduceToNat, Int.reduceNe, Int.reduceEq, Int.reduceLT, Int.reduceLE, Int.reduceBEq, Int.reduceBNe, ne_eq, not_true_eq_false, not_false_eq_true, decide_true, decide_false, List.length_map]
  refine branch_l (by simp) ?_
  simp -implicitDefEqProofs (disch := omega) only [go_sem, ↓reduceIte, Nat.reduceEqDiff, Nat.reduceMul, Nat.reduceAdd, Nat.reduceDiv, Nat.reduceBEq, Nat.reduceLeDiff, Int.reduceToNat, Int.reduceNe, Int.reduceEq, Int.reduceLT, Int.reduceLE, Int.reduceBEq, Int.reduceBNe, ne_eq, not_true_eq_false, not_false_eq_true, decide_true, decide_false, List.length_map]
  refine branch_l (by simp) ?_
  simp -implicitDefEqProofs (disch := omega) only [go_sem, ↓reduceIte, Nat.reduceEqDiff, Nat.reduceMul, Nat.reduceAdd, Nat.reduceDiv, Nat.reduceBEq, Nat.reduceLeDiff, Int.reduceToNat, Int.reduceNe, Int.reduceEq, Int.reduceLT, Int.reduceLE, Int.reduceBEq, Int.reduceBNe, ne_eq, not_true_eq_false, not_false_eq_true, decide_true, decide_false, List.length_map]
  refine callC_at v1 ?_
  simp -implicitDefEqProofs (disch := omega) only [go_sem, ↓reduceIte, Nat.reduceEqDiff, Nat.reduceMul, Nat.reduceAdd, Nat.reduceDiv, Nat.reduceBEq, Nat.reduceLeDiff, Int.reduceToNat, Int.reduceNe, Int.reduceEq, Int.reduceLT, Int.reduceLE, Int.reduceBEq, Int.reduceBNe, ne_eq, not_true_eq_false, not_false_eq_true, decide_true, decide_false, List.length_map]
  refine callC_at v2 ?_
  simp -implicitDefEqProofs (disch := omega) only [go_sem, ↓reduceIte, Nat.reduceEqDiff, Nat.reduceMul, Nat.reduceAdd, Nat.reduceDiv, Nat.reduceBEq, Nat.reduceLeDiff, Int.reduceToNat, Int.reduceNe, Int.reduceEq, Int.reduceLT, Int.reduceLE, Int.reduceBEq, Int.reduceBNe, ne_eq, not_true_eq_false, not_false_eq_true, decide_true, decide_false, List.length_map, Try.results4]
end Go.Proofs.Ytcllccpeechdhaa
set_option maxRecDepth 100000
namespace Go.Proofs.Ytcllccpeechdhaa
open Go.Vai Go Go.Proofs
theorem bal_valid {l : List Deb} (h : debtsF l 1000000000 = true) : Ev Try.prog 10 [DL l] (.tup [.new 3 1 ((balF l).map I), Er 0]) := by
  have := bal_ev l (by have := ((debtsF_iff _ _).1 h).1; omega)
  rwa [balR, if_pos h] at this
theorem round_valid {l : List Deb} (h : debtsF l 1000000000 = true) : Ev Try.prog 11 [DL l] (.tup [.new 39 3 ((lstF (rndF (bookF l))).map DP), Er 0]) := by
  have := Round_ev l (by have := ((debtsF_iff _ _).1 h).1; omega)
  rwa [roundT, if_pos h] at this
end Go.Proofs.Ytcllccpeechdhaa
namespace Go.Proofs.Ytcllccpeechdhaa
open Go.Vai Go
theorem debts_of {l : List Deb} {m : Int} (hl : l.length ≤ 60) (h : ∀ d ∈ l, ¬ badF m d) : debtsF l m = true := (debtsF_iff _ _).2 ⟨hl, fun i hi => h _ (gd_mem l i hi)⟩
theorem bal_same {l l' : List Deb} {m m' : Int} (h : debtsF l m = true) (h' : debtsF l' m' = true) (hs : ∀ c, c < 8 → balS l c = balS l' c) : balF l = balF l' :=
  gd_ext (by rw [balF, balN_length, balF, balN_length]) fun c hc => by
    rw [balF, balN_length] at hc
    rw [bal_eq ((debtsF_iff _ _).1 h).2 hc, bal_eq ((debtsF_iff _ _).1 h').2 hc, hs c hc]
theorem book_same {l l' : List Deb} (hs : ∀ a b, dS l a b = dS l' a b) : bookF l = bookF l' := by
  unfold bookF
  refine List.map_congr_left fun k _ => ?_
  simp only [← dS_deb, hs]
end Go.Proofs.Ytcllccpeechdhaa

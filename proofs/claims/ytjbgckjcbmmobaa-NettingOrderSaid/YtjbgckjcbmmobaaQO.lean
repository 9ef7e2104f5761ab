/- Chapter 39, NettingOrder: for every input the law returns true, and each argument reads afterwards as it read before. -/
import Derived.Test.YtjbgckjcbmmobaaKG
set_option linter.unusedVariables false
set_option linter.unusedSimpArgs false
/- The order of debts plays no part, in plain words. -/
namespace Go.Proofs.Ytjbgckjcbmmobaa
open Go.Vai Go

/-- A list, turned. -/
def rotF (l : List Deb) (k : Nat) : List Deb := l.drop k ++ l.take k
theorem rotF_length (l : List Deb) (k : Nat) (h : k ≤ l.length) : (rotF l k).length = l.length := by
  rw [rotF, List.length_append, List.length_drop, List.length_take]; omega
theorem rotF_gd (l : List Deb) (k i : Nat) (hk : k < l.length) (hi : i < l.length) : gd (rotF l k) i = gd l ((i + k) % l.length) := by
  unfold rotF
  by_cases h : i < l.length - k
  · rw [gd_append_left _ _ _ (by rw [List.length_drop]; exact h), gd_drop, Nat.mod_eq_of_lt (by omega), Nat.add_comm]
  · rw [gd_append_right _ _ _ (by rw [List.length_drop]; omega), List.length_drop, gd_take _ _ _ (by omega)]
    congr 1
    rw [Nat.mod_eq_sub_mod (by omega), Nat.mod_eq_of_lt (by omega)]; omega
theorem rot_sum (l : List Deb) (k : Nat) (f : Deb → Int) : ((rotF l k).map f).sum = (l.map f).sum := by
  have h := congrArg (fun m => (m.map f).sum) (List.take_append_drop k l)
  simp only [List.map_append, List.sum_append] at h
  rw [rotF, List.map_append, List.sum_append]
  omega
theorem rot_mem (l : List Deb) (k : Nat) (d : Deb) : d ∈ rotF l k ↔ d ∈ l := by
  have h := List.take_append_drop k l
  constructor
  · intro hd
    rw [rotF, List.mem_append] at hd
    rw [← h, List.mem_append]; exact hd.symm
  · intro hd
    rw [← h, List.mem_append] at hd
    rw [rotF, List.mem_append]; exact hd.symm
theorem debts_of {l : List Deb} {m : Int} (hl : l.length ≤ 60) (h : ∀ d ∈ l, ¬ badF m d) : debtsF l m = true := (debtsF_iff _ _).2 ⟨hl, fun i hi => h _ (gd_mem l i hi)⟩
theorem debts_mem {l : List Deb} {m : Int} (h : debtsF l m = true) : ∀ d ∈ l, ¬ badF m d := fun d hd => by
  obtain ⟨i, hi⟩ := List.getElem?_of_mem hd
  have hlt := (List.getElem?_eq_some_iff.1 hi).1
  rw [gd_some l i hlt] at hi; cases hi
  exact ((debtsF_iff _ _).1 h).2 i hlt
theorem rot_debts {l : List Deb} {m : Int} (h : debtsF l m = true) (k : Nat) (hk : k ≤ l.length) : debtsF (rotF l k) m = true :=
  debts_of (by rw [rotF_length l k hk]; exact ((debtsF_iff _ _).1 h).1) fun d hd => debts_mem h d ((rot_mem l k d).1 hd)
theorem bal_same {l l' : List Deb} {m m' : Int} (h : debtsF l m = true) (h' : debtsF l' m' = true) (hs : ∀ c, c < 8 → balS l c = balS l' c) : balF l = balF l' :=
  gd_ext (by rw [balF, balN_length, balF, balN_length]) fun c hc => by
    rw [balF, balN_length] at hc
    rw [bal_eq ((debtsF_iff _ _).1 h).2 hc, bal_eq ((debtsF_iff _ _).1 h').2 hc, hs c hc]
theorem book_same {l l' : List Deb} (hs : ∀ a b, dS l a b = dS l' a b) : bookF l = bookF l' := by
  unfold bookF
  refine List.map_congr_left fun k _ => ?_
  simp only [← dS_deb, hs]
theorem rot_bal {l : List Deb} {m : Int} (h : debtsF l m = true) (k : Nat) (hk : k ≤ l.length) : balF (rotF l k) = balF l := bal_same (rot_debts h k hk) h fun c _ => rot_sum l k _
theorem rot_book (l : List Deb) (k : Nat) : bookF (rotF l k) = bookF l := book_same fun _ _ => rot_sum l k _
theorem app_debts {l p : List Deb} {m : Int} (h : debtsF l m = true) (h' : debtsF p m = true) (hl : l.length + p.length ≤ 60) : debtsF (l ++ p) m = true :=
  debts_of (by rw [List.length_append]; exact hl) fun d hd => by
    rcases List.mem_append.1 hd with hd | hd
    · exact debts_mem h d hd
    · exact debts_mem h' d hd
theorem app_bal {l p : List Deb} {m : Int} (h : debtsF l m = true) (h' : debtsF p m = true) (hl : l.length + p.length ≤ 60) (c : Nat) (hc : c < 8) : gd (balF (l ++ p)) c = gd (balF l) c + gd (balF p) c := by
  rw [bal_eq ((debtsF_iff _ _).1 h).2 hc, bal_eq ((debtsF_iff _ _).1 h').2 hc, bal_eq ((debtsF_iff _ _).1 (app_debts h h' hl)).2 hc]
  unfold balS; rw [List.map_append, List.sum_append]
end Go.Proofs.Ytjbgckjcbmmobaa

/- The law of chapter 39 that the order of debts plays no part, and balances add up. -/
set_option maxRecDepth 100000
set_option linter.unusedSimpArgs false
namespace Go.Proofs.Ytjbgckjcbmmobaa
open Go.Vai Go Go.Proofs

set_option maxHeartbeats 1000000 in
theorem order_ev (x y : List Deb) (n : Int) (hl : x.length ≤ 9223372036854775807) (hx : ∀ z ∈ x, R64 z.1 ∧ R64 z.2.1 ∧ R64 z.2.2) (hl2 : y.length ≤ 9223372036854775807) (hy : ∀ z ∈ y, R64 z.1 ∧ R64 z.2.1 ∧ R64 z.2.2) (hn : R64 n) : Ev Try.prog 9 [DL x, DL y, I n] (B true) := by
  refine ev_of Try.func9 rfl (by kernel_rfl) mo (Nat.le_of_ble_eq_true rfl) ?_
  simp -implicitDefEqProofs (disch := omega) only [go_sem, ↓reduceIte, Nat.reduceEqDiff, Nat.reduceMul, Nat.reduceAdd, Nat.reduceDiv, Nat.reduceBEq, Nat.reduceLeDiff, Int.reduceToNat, Int.reduceNe, Int.reduceEq, Int.reduceLT, Int.reduceLE, Int.reduceBEq, Int.reduceBNe, ne_eq, not_true_eq_false, not_false_eq_true, decide_true, decide_false, List.length_map, Try.ntmps9]
  refine callC_at sane_ev ?_
  simp -implicitDefEqProofs (disch := omega) only [go_sem, ↓reduceIte, Nat.reduceEqDiff, Nat.reduceMul, Nat.reduceAdd, Nat.reduceDiv, Nat.reduceBEq, Nat.reduceLeDiff, Int.reduceToNat, Int.reduceNe, Int.reduceEq, Int.reduceLT, Int.reduceLE, Int.reduceBEq, Int.reduceBNe, ne_eq, not_true_eq_false, not_false_eq_true, decide_true, decide_false, List.length_map]
  refine callC_at (made_ev x hl hx) ?_
  have hmy := made_ev y hl2 hy
  have hd := madeF_debts x
  have hdm := madeF_debts y
  have h20 : (madeF x).length ≤ 20 ∧ (madeF y).length ≤ 20 := by simp [madeF]; omega
  generalize madeF x = l at *
  generalize madeF y = m at *
  simp -implicitDefEqProofs (disch := omega) only [go_sem, ↓reduceIte, Nat.reduceEqDiff, Nat.reduceMul, Nat.reduceAdd, Nat.reduceDiv, Nat.reduceBEq, Nat.reduceLeDiff, Int.reduceToNat, Int.reduceNe, Int.reduceEq, Int.reduceLT, Int.reduceLE, Int.reduceBEq, Int.reduceBNe, ne_eq, not_true_eq_false, not_false_eq_true, decide_true, decide_false, List.length_map]
  obtain ⟨k, hkk⟩ : ∃ k : Nat, k ≤ l.length ∧ (0 < l.length → pickF n l.length = k ∧ k < l.length) := by
    by_cases h0 : 0 < l.length
    · have := pickF_in (c := n) (n := (l.length : Int)) (by omega)
      exact ⟨(pickF n l.length).toNat, by omega, fun _ => by omega⟩
    · exact ⟨0, by omega, fun h => absurd h h0⟩
  obtain ⟨hk, hkp⟩ := hkk
  have hrl := rotF_length l k hk
  refine loopC_mk (fun j E σ => ∃ i : Nat, i + j = l.length ∧ E 1 = DL y ∧ E 2 = I n ∧ E 7 = .own 20972016 3 0 l.length ∧ E 8 = .own 20971648 3 0 i ∧ E 9 = I i ∧ σ 20972016 = some ⟨47, 3, l.map DP⟩ ∧ σ 20971648 = some ⟨47, 3, ((rotF l k).take i).map DP⟩) l.length ⟨0, by omega, ?_⟩ ?_
  · simp -implicitDefEqProofs (disch := omega) only [go_sem, ↓reduceIte, Nat.reduceEqDiff, Nat.reduceMul, Nat.reduceAdd, Nat.reduceDiv, Nat.reduceBEq, Nat.reduceLeDiff, Int.reduceToNat, Int.reduceNe, Int.reduceEq, Int.reduceLT, Int.reduceLE, Int.reduceBEq, Int.reduceBNe, ne_eq, not_true_eq_false, not_false_eq_true, decide_true, decide_false, List.length_map]
    rfl
  · rintro j E σ ⟨i, hi, h1, h2, h7, h8, h9, m7, m8⟩
    simp -implicitDefEqProofs (disch := omega) only [go_sem, ↓reduceIte, Nat.reduceEqDiff, Nat.reduceMul, Nat.reduceAdd, Nat.reduceDiv, Nat.reduceBEq, Nat.reduceLeDiff, Int.reduceToNat, Int.reduceNe, Int.reduceEq, Int.reduceLT, Int.reduceLE, Int.reduceBEq, Int.reduceBNe, ne_eq, not_true_eq_false, not_false_eq_true, decide_true, decide_false, List.length_map, h1, h2, h7, h8, h9, m7, m8]
    refine branch_mk (fun hc => ?_) (fun hc => ?_)
    · obtain ⟨hp, hkl⟩ := hkp (by omega)
      have hpk := pick_ev n l.length hn (by omega)
      rw [hp] at hpk
      have htl : ((rotF l k).take i).length = i := by rw [List.length_take]; omega
      have e1 : (((i : Int) + (k : Int)).tmod (l.length : Int)).toNat = (i + k) % l.length := by
        rw [Int.tmod_eq_emod_of_nonneg (by omega), show (i : Int) + (k : Int) = ((i + k : Nat) : Int) from by simp, ← Int.natCast_emod, Int.toNat_natCast]
      have e2 : 0 ≤ ((i : Int) + (k : Int)).tmod (l.length : Int) := by
        rw [Int.tmod_eq_emod_of_nonneg (by omega)]; exact Int.emod_nonneg _ (by omega)
      have e3 : (i + k) % l.length < l.length := Nat.mod_lt _ (by omega)
      have e4 : (rotF l k).take (i + 1) = (rotF l k).take i ++ [gd l ((i + k) % l.length)] := by
        rw [List.take_add_one, gd_some _ i (by omega), rotF_gd l k i hkl (by omega)]; rfl
      simp -implicitDefEqProofs (disch := omega) only [go_sem, ↓reduceIte, Nat.reduceEqDiff, Nat.reduceMul, Nat.reduceAdd, Nat.reduceDiv, Nat.reduceBEq, Nat.reduceLeDiff, Int.reduceToNat, Int.reduceNe, Int.reduceEq, Int.reduceLT, Int.reduceLE, Int.reduceBEq, Int.reduceBNe, ne_eq, not_true_eq_false, not_false_eq_true, decide_true, decide_false, List.length_map, h1, h2, h7, h8, h9, m7, m8]
      refine callC_at hpk ?_
      simp -implicitDefEqProofs (disch := omega) only [go_sem, ↓reduceIte, Nat.reduceEqDiff, Nat.reduceMul, Nat.reduceAdd, Nat.reduceDiv, Nat.reduceBEq, Nat.reduceLeDiff, Int.reduceToNat, Int.reduceNe, Int.reduceEq, Int.reduceLT, Int.reduceLE, Int.reduceBEq, Int.reduceBNe, ne_eq, not_true_eq_false, not_false_eq_true, decide_true, decide_false, List.length_map, h1, h2, h7, h8, h9, m7, m8, e1, e2, e3, htl]
      refine againQ_mk (j - 1) (by omega) ⟨i + 1, by omega, ?_⟩
      simp -implicitDefEqProofs (disch := omega) only [go_sem, ↓reduceIte, Nat.reduceEqDiff, Nat.reduceMul, Nat.reduceAdd, Nat.reduceDiv, Nat.reduceBEq, Nat.reduceLeDiff, Int.reduceToNat, Int.reduceNe, Int.reduceEq, Int.reduceLT, Int.reduceLE, Int.reduceBEq, Int.reduceBNe, ne_eq, not_true_eq_false, not_false_eq_true, decide_true, decide_false, List.length_map, h1, h2, h7, h8, h9, m7, m8, e4]
      simp
    · have : i = l.length := by omega
      subst this
      rw [List.take_of_length_le (by omega)] at m8
      have hrd := rot_debts hd k hk
      have a1 := bal_valid hd
      have a2 := bal_valid hrd
      rw [rot_bal hd k hk] at a2
      have a3 := pairs_valid hd
      have a4 := pairs_valid hrd
      have a5 := round_valid hd
      have a6 := round_valid hrd
      rw [rot_book] at a4 a6
      have a7 := bal_valid hdm
      have hap := app_debts hrd hdm (by omega)
      have a8 := bal_valid hap
      have hadd := app_bal hrd hdm (by omega)
      rw [rot_bal hd k hk] at hadd
      have et : (rotF l k ++ m).take (l.length + m.length) = rotF l k ++ m := List.take_of_length_le (by rw [List.length_append, hrl]; omega)
      have b1 : (balF l).length = 8 := balN_length l _
      have b2 : (balF m).length = 8 := balN_length m _
      have b3 : (balF (rotF l k ++ m)).length = 8 := balN_length _ _
      have c1 := ints_ev (balF l) (balF l) (by omega) (by omega)
      have d1 : (lstF (bookF l)).length ≤ 64 := lstF_length _
      have d2 : (lstF (rndF (bookF l))).length ≤ 64 := lstF_length _
      have c2 := same_ev (lstF (bookF l)) (lstF (bookF l)) (by omega) (by omega)
      have c3 := same_ev (lstF (rndF (bookF l))) (lstF (rndF (bookF l))) (by omega) (by omega)
      rw [decide_eq_true rfl] at c1 c2 c3
      have hsm := balN_small l ((debtsF_iff _ _).1 hd).2 (by omega) (by omega) (by omega) l.length (Nat.le_refl _)
      have hsm2 := balN_small m ((debtsF_iff _ _).1 hdm).2 (by omega) (by omega) (by omega) m.length (Nat.le_refl _)
      change ∀ c, c < 8 → -60000000000000 ≤ gd (balF l) c ∧ gd (balF l) c ≤ 60000000000000 at hsm
      change ∀ c, c < 8 → -60000000000000 ≤ gd (balF m) c ∧ gd (balF m) c ≤ 60000000000000 at hsm2
      generalize balF l = a at *
      generalize balF m = u at *
      generalize balF (rotF l k ++ m) = v at *
      generalize lstF (bookF l) = p at *
      generalize lstF (rndF (bookF l)) = r at *
      simp -implicitDefEqProofs (disch := omega) only [go_sem, ↓reduceIte, Nat.reduceEqDiff, Nat.reduceMul, Nat.reduceAdd, Nat.reduceDiv, Nat.reduceBEq, Nat.reduceLeDiff, Int.reduceToNat, Int.reduceNe, Int.reduceEq, Int.reduceLT, Int.reduceLE, Int.reduceBEq, Int.reduceBNe, ne_eq, not_true_eq_false, not_false_eq_true, decide_true, decide_false, List.length_map, h1, h2, h7, h8, h9, m7, m8]
      refine callC_at hmy ?_
      simp -implicitDefEqProofs (disch := omega) only [go_sem, ↓reduceIte, Nat.reduceEqDiff, Nat.reduceMul, Nat.reduceAdd, Nat.reduceDiv, Nat.reduceBEq, Nat.reduceLeDiff, Int.reduceToNat, Int.reduceNe, Int.reduceEq, Int.reduceLT, Int.reduceLE, Int.reduceBEq, Int.reduceBNe, ne_eq, not_true_eq_false, not_false_eq_true, decide_true, decide_false, List.length_map, h1, h2, h7, h8, h9, m7, m8]
      refine callC_at a1 ?_
      simp -implicitDefEqProofs (disch := omega) only [go_sem, ↓reduceIte, Nat.reduceEqDiff, Nat.reduceMul, Nat.reduceAdd, Nat.reduceDiv, Nat.reduceBEq, Nat.reduceLeDiff, Int.reduceToNat, Int.reduceNe, Int.reduceEq, Int.reduceLT, Int.reduceLE, Int.reduceBEq, Int.reduceBNe, ne_eq, not_true_eq_false, not_false_eq_true, decide_true, decide_false, List.length_map, h1, h2, h7, h8, h9, m7, m8, hrl]
      refine callC_at a2 ?_
      simp -implicitDefEqProofs (disch := omega) only [go_sem, ↓reduceIte, Nat.reduceEqDiff, Nat.reduceMul, Nat.reduceAdd, Nat.reduceDiv, Nat.reduceBEq, Nat.reduceLeDiff, Int.reduceToNat, Int.reduceNe, Int.reduceEq, Int.reduceLT, Int.reduceLE, Int.reduceBEq, Int.reduceBNe, ne_eq, not_true_eq_false, not_false_eq_true, decide_true, decide_false, List.length_map, h1, h2, h7, h8, h9, m7, m8, hrl]
      refine callC_at a3 ?_
      simp -implicitDefEqProofs (disch := omega) only [go_sem, ↓reduceIte, Nat.reduceEqDiff, Nat.reduceMul, Nat.reduceAdd, Nat.reduceDiv, Nat.reduceBEq, Nat.reduceLeDiff, Int.reduceToNat, Int.reduceNe, Int.reduceEq, Int.reduceLT, Int.reduceLE, Int.reduceBEq, Int.reduceBNe, ne_eq, not_true_eq_false, not_false_eq_true, decide_true, decide_false, List.length_map, h1, h2, h7, h8, h9, m7, m8, hrl]
      refine callC_at a4 ?_
      simp -implicitDefEqProofs (disch := omega) only [go_sem, ↓reduceIte, Nat.reduceEqDiff, Nat.reduceMul, Nat.reduceAdd, Nat.reduceDiv, Nat.reduceBEq, Nat.reduceLeDiff, Int.reduceToNat, Int.reduceNe, Int.reduceEq, Int.reduceLT, Int.reduceLE, Int.reduceBEq, Int.reduceBNe, ne_eq, not_true_eq_false, not_false_eq_true, decide_true, decide_false, List.length_map, h1, h2, h7, h8, h9, m7, m8, hrl]
      refine callC_at a5 ?_
      simp -implicitDefEqProofs (disch := omega) only [go_sem, ↓reduceIte, Nat.reduceEqDiff, Nat.reduceMul, Nat.reduceAdd, Nat.reduceDiv, Nat.reduceBEq, Nat.reduceLeDiff, Int.reduceToNat, Int.reduceNe, Int.reduceEq, Int.reduceLT, Int.reduceLE, Int.reduceBEq, Int.reduceBNe, ne_eq, not_true_eq_false, not_false_eq_true, decide_true, decide_false, List.length_map, h1, h2, h7, h8, h9, m7, m8, hrl]
      refine callC_at a6 ?_
      simp -implicitDefEqProofs (disch := omega) only [go_sem, ↓reduceIte, Nat.reduceEqDiff, Nat.reduceMul, Nat.reduceAdd, Nat.reduceDiv, Nat.reduceBEq, Nat.reduceLeDiff, Int.reduceToNat, Int.reduceNe, Int.reduceEq, Int.reduceLT, Int.reduceLE, Int.reduceBEq, Int.reduceBNe, ne_eq, not_true_eq_false, not_false_eq_true, decide_true, decide_false, List.length_map, h1, h2, h7, h8, h9, m7, m8, hrl]
      refine callC_at a7 ?_
      simp -implicitDefEqProofs (disch := omega) only [go_sem, ↓reduceIte, Nat.reduceEqDiff, Nat.reduceMul, Nat.reduceAdd, Nat.reduceDiv, Nat.reduceBEq, Nat.reduceLeDiff, Int.reduceToNat, Int.reduceNe, Int.reduceEq, Int.reduceLT, Int.reduceLE, Int.reduceBEq, Int.reduceBNe, ne_eq, not_true_eq_false, not_false_eq_true, decide_true, decide_false, List.length_map, h1, h2, h7, h8, h9, m7, m8, hrl]
      rw [et]
      refine callC_at a8 ?_
      simp -implicitDefEqProofs (disch := omega) only [go_sem, ↓reduceIte, Nat.reduceEqDiff, Nat.reduceMul, Nat.reduceAdd, Nat.reduceDiv, Nat.reduceBEq, Nat.reduceLeDiff, Int.reduceToNat, Int.reduceNe, Int.reduceEq, Int.reduceLT, Int.reduceLE, Int.reduceBEq, Int.reduceBNe, ne_eq, not_true_eq_false, not_false_eq_true, decide_true, decide_false, List.length_map, h1, h2, h7, h8, h9, m7, m8, hrl, b1, b2, b3]
      have ea : a.take 8 = a := List.take_of_length_le (by omega)
      refine loopC_mk (fun j E σ => ∃ i : Nat, i + j = 8 ∧ E 11 = .own 20972432 1 0 8 ∧ E 13 = .own 20972512 1 0 8 ∧ E 15 = .own 20972592 3 0 p.length ∧ E 17 = .own 20972672 3 0 p.length ∧ E 19 = .own 20972752 3 0 r.length ∧ E 21 = .own 20972832 3 0 r.length ∧ E 23 = .own 20972912 1 0 8 ∧ E 25 = .own 20973024 1 0 8 ∧ E 27 = I i ∧ σ 20972432 = some ⟨3, 1, a.map I⟩ ∧ σ 20972512 = some ⟨3, 1, a.map I⟩ ∧ σ 20972592 = some ⟨47, 3, p.map DP⟩ ∧ σ 20972672 = some ⟨47, 3, p.map DP⟩ ∧ σ 20972752 = some ⟨47, 3, r.map DP⟩ ∧ σ 20972832 = some ⟨47, 3, r.map DP⟩ ∧ σ 20972912 = some ⟨3, 1, u.map I⟩ ∧ σ 20973024 = some ⟨3, 1, v.map I⟩) 8 ⟨0, rfl, ?_⟩ ?_
      · simp -implicitDefEqProofs (disch := omega) only [go_sem, ↓reduceIte, Nat.reduceEqDiff, Nat.reduceMul, Nat.reduceAdd, Nat.reduceDiv, Nat.reduceBEq, Nat.reduceLeDiff, Int.reduceToNat, Int.reduceNe, Int.reduceEq, Int.reduceLT, Int.reduceLE, Int.reduceBEq, Int.reduceBNe, ne_eq, not_true_eq_false, not_false_eq_true, decide_true, decide_false, List.length_map, h1, h2, h7, h8, h9, m7, m8, hrl, b1, b2, b3]
        rfl
      · clear h1 h2 h7 h8 h9 m7 m8 hi hc E σ
        rintro j E σ ⟨i, hi, q11, q13, q15, q17, q19, q21, q23, q25, q27, w1, w2, w3, w4, w5, w6, w7, w8⟩
        simp -implicitDefEqProofs (disch := omega) only [go_sem, ↓reduceIte, Nat.reduceEqDiff, Nat.reduceMul, Nat.reduceAdd, Nat.reduceDiv, Nat.reduceBEq, Nat.reduceLeDiff, Int.reduceToNat, Int.reduceNe, Int.reduceEq, Int.reduceLT, Int.reduceLE, Int.reduceBEq, Int.reduceBNe, ne_eq, not_true_eq_false, not_false_eq_true, decide_true, decide_false, List.length_map, q11, q13, q15, q17, q19, q21, q23, q25, q27, w1, w2, w3, w4, w5, w6, w7, w8]
        refine branch_mk (fun hc => ?_) (fun hc => ?_)
        · have g1 := hsm i (by omega)
          have g2 := hsm2 i (by omega)
          have g3 := hadd i (by omega)
          have hw : IntKind.i64.wrap (gd a i + gd u i) = gd v i := by rw [g3]; exact wrap64_of (by omega)
          simp -implicitDefEqProofs (disch := omega) only [go_sem, ↓reduceIte, Nat.reduceEqDiff, Nat.reduceMul, Nat.reduceAdd, Nat.reduceDiv, Nat.reduceBEq, Nat.reduceLeDiff, Int.reduceToNat, Int.reduceNe, Int.reduceEq, Int.reduceLT, Int.reduceLE, Int.reduceBEq, Int.reduceBNe, ne_eq, not_true_eq_false, not_false_eq_true, decide_true, decide_false, List.length_map, q11, q13, q15, q17, q19, q21, q23, q25, q27, w1, w2, w3, w4, w5, w6, w7, w8, b1, b2, b3, hw]
          refine againQ_mk (j - 1) (by omega) ⟨i + 1, by omega, ?_⟩
          simp -implicitDefEqProofs (disch := omega) only [go_sem, ↓reduceIte, Nat.reduceEqDiff, Nat.reduceMul, Nat.reduceAdd, Nat.reduceDiv, Nat.reduceBEq, Nat.reduceLeDiff, Int.reduceToNat, Int.reduceNe, Int.reduceEq, Int.reduceLT, Int.reduceLE, Int.reduceBEq, Int.reduceBNe, ne_eq, not_true_eq_false, not_false_eq_true, decide_true, decide_false, List.length_map, q11, q13, q15, q17, q19, q21, q23, q25, q27, w1, w2, w3, w4, w5, w6, w7, w8]
          simp
        · simp -implicitDefEqProofs (disch := omega) only [go_sem, ↓reduceIte, Nat.reduceEqDiff, Nat.reduceMul, Nat.reduceAdd, Nat.reduceDiv, Nat.reduceBEq, Nat.reduceLeDiff, Int.reduceToNat, Int.reduceNe, Int.reduceEq, Int.reduceLT, Int.reduceLE, Int.reduceBEq, Int.reduceBNe, ne_eq, not_true_eq_false, not_false_eq_true, decide_true, decide_false, List.length_map, q11, q13, q15, q17, q19, q21, q23, q25, q27, w1, w2, w3, w4, w5, w6, w7, w8, b1, ea]
          refine callC_at c1 ?_
          simp -implicitDefEqProofs (disch := omega) only [go_sem, ↓reduceIte, Nat.reduceEqDiff, Nat.reduceMul, Nat.reduceAdd, Nat.reduceDiv, Nat.reduceBEq, Nat.reduceLeDiff, Int.reduceToNat, Int.reduceNe, Int.reduceEq, Int.reduceLT, Int.reduceLE, Int.reduceBEq, Int.reduceBNe, ne_eq, not_true_eq_false, not_false_eq_true, decide_true, decide_false, List.length_map, q11, q13, q15, q17, q19, q21, q23, q25, q27, w1, w2, w3, w4, w5, w6, w7, w8, b1]
          refine callC_at c2 ?_
          simp -implicitDefEqProofs (disch := omega) only [go_sem, ↓reduceIte, Nat.reduceEqDiff, Nat.reduceMul, Nat.reduceAdd, Nat.reduceDiv, Nat.reduceBEq, Nat.reduceLeDiff, Int.reduceToNat, Int.reduceNe, Int.reduceEq, Int.reduceLT, Int.reduceLE, Int.reduceBEq, Int.reduceBNe, ne_eq, not_true_eq_false, not_false_eq_true, decide_true, decide_false, List.length_map, q11, q13, q15, q17, q19, q21, q23, q25, q27, w1, w2, w3, w4, w5, w6, w7, w8, b1]
          refine callC_at c3 ?_
          simp -implicitDefEqProofs (disch := omega) only [go_sem, ↓reduceIte, Nat.reduceEqDiff, Nat.reduceMul, Nat.reduceAdd, Nat.reduceDiv, Nat.reduceBEq, Nat.reduceLeDiff, Int.reduceToNat, Int.reduceNe, Int.reduceEq, Int.reduceLT, Int.reduceLE, Int.reduceBEq, Int.reduceBNe, ne_eq, not_true_eq_false, not_false_eq_true, decide_true, decide_false, List.length_map, q11, q13, q15, q17, q19, q21, q23, q25, q27, w1, w2, w3, w4, w5, w6, w7, w8, b1, Try.results9]
end Go.Proofs.Ytjbgckjcbmmobaa

/- Chapter 39, NettingOrder: for every input the law returns true, and each argument reads afterwards as it read before. -/
set_option maxRecDepth 100000
namespace Go.Proofs.Ytjbgckjcbmmobaa
open Go.Vai Go Go.Proofs

theorem nettingOrder_lifted (os : Os) (started : os.Started) (H : Type) (enc : TypeId × Value → H) :
    ReturnsInHanded {} Try.checked os 9 .any (Rows.nettingOrderSpec.pre6 enc Try.prog Try.f9 [] false) (Rows.nettingOrderSpec.post enc Try.prog Try.f9 false true false false) :=
  lifted (C := Try.checked) (tb := 4) (ps := [OX, OX, OI]) own started (by kernel_rfl) Try.func9
    (ChangeSpec.witness6 (enc := enc) (C := Try.checked) false ⟨#[], #[.slice none 0 0, .slice none 0 0, .int .i64 0], []⟩ 8 (by kernel_rfl) (by kernel_rfl) (by kernel_rfl) (by kernel_rfl))
    laidOut (by kernel_rfl) (by kernel_rfl) (by kernel_rfl) rfl (len_3 fun _ _ _ => rfl)
    (fun w => ⟨o_threes, o_threes, o_int (by kernel_rfl), trivial⟩)
    (allP_3 fun a0 a1 a2 h0 h1 h2 => by
      obtain ⟨x0, hx0, hr0, rfl⟩ := h0
      obtain ⟨x1, hx1, hr1, rfl⟩ := h1
      obtain ⟨x2, hx2, rfl⟩ := h2
      exact order_ev x0 x1 x2 hx0 hr0 hx1 hr1 hx2)
theorem nettingOrder_holds : Rows.NettingOrderSaid :=
  OpenClaim.holds_of_wide 9 Try.f9 rfl rfl rfl rfl rfl rfl rfl ⟨rfl, rfl, rfl, rfl, rfl⟩ rfl rfl rfl rfl rfl (by kernel_rfl) Try.func9 (by kernel_rfl)
    (of_decide_eq_true (by kernel_rfl)) (by unfold Func.isWrapper; first | (rw [if_pos (by decide +kernel)]; kernel_rfl) | (rw [if_neg (by decide +kernel)]; exact ⟨rfl, rfl⟩))
    (fun os started H enc _ => nettingOrder_lifted os started H enc)
#print axioms nettingOrder_holds
end Go.Proofs.Ytjbgckjcbmmobaa

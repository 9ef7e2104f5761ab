/- Chapter 39, NettingGroups: settling two groups of carriers apart needs no fewer payments. -/
import Derived.Test.YtjbgckjcbmmobaaKG
set_option linter.unusedVariables false
set_option linter.unusedSimpArgs false
/- Groups save payments, in plain words. -/
namespace Go.Proofs.Ytjbgckjcbmmobaa
open Go.Vai Go

def negK (b : List Int) : Nat → Nat
  | 0 => 0
  | i + 1 => negK b i + if gd b i < 0 then 1 else 0
def posK (b : List Int) : Nat → Nat
  | 0 => 0
  | i + 1 => posK b i + if 0 < gd b i then 1 else 0
theorem nz_split (b : List Int) : ∀ n, nzK b n = negK b n + posK b n
  | 0 => rfl
  | n + 1 => by
    have := nz_split b n
    rw [nzK, negK, posK]
    split <;> split <;> split <;> omega
/-- Carriers that some test picks. -/
def pickL (p : Nat → Bool) : Nat → List Nat
  | 0 => []
  | i + 1 => if p i = true then i :: pickL p i else pickL p i
theorem pickL_mem (p : Nat → Bool) : ∀ n i, i < n → p i = true → i ∈ pickL p n
  | n + 1, i, h, h0 => by
    rw [pickL]
    by_cases e : i = n
    · subst e; rw [if_pos h0]; simp
    · have := pickL_mem p n i (by omega) h0
      split
      · exact List.mem_cons_of_mem _ this
      · exact this
theorem pickL_neg (b : List Int) : ∀ n, (pickL (fun i => decide (gd b i < 0)) n).length = negK b n
  | 0 => rfl
  | n + 1 => by
    rw [pickL, negK]
    by_cases h : gd b n < 0
    · rw [if_pos (by simpa using h), if_pos h, List.length_cons, pickL_neg b n]
    · rw [if_neg (by simpa using h), if_neg h, pickL_neg b n]; rfl
theorem pickL_pos (b : List Int) : ∀ n, (pickL (fun i => decide (0 < gd b i)) n).length = posK b n
  | 0 => rfl
  | n + 1 => by
    rw [pickL, posK]
    by_cases h : 0 < gd b n
    · rw [if_pos (by simpa using h), if_pos h, List.length_cons, pickL_pos b n]
    · rw [if_neg (by simpa using h), if_neg h, pickL_pos b n]; rfl
/-- In each group somebody pays, and somebody is paid. -/
theorem grps_sides {b : List Int} (hb : goodF b = true) : (grpsF b).length ≤ negK b 8 ∧ (grpsF b).length ≤ posK b 8 := by
  have hdiv := grps_div hb
  obtain ⟨h, hc⟩ := div_col (usedF_lt b) hdiv
  have mem : ∀ j ∈ grpsF b, (∃ i, i < 8 ∧ (maskK (usedF b) h j 8).testBit i = true ∧ h i = j ∧ gd b i ≠ 0) ∧ sumM b (maskK (usedF b) h j 8) = 0 := fun j hj => by
    obtain ⟨i, h1, h2, h3⟩ := (hc.each j hj).1
    refine ⟨⟨i, h1, by rw [maskK_bit, h2, h3]; simp [h1], h3, ?_⟩, hc.sum hj⟩
    rw [usedF_bit b i h1] at h2; simpa using h2
  have inm : ∀ j i, (maskK (usedF b) h j 8).testBit i = true → h i = j := fun j i hi => by
    rw [maskK_bit] at hi; simp at hi; exact hi.2.2
  refine ⟨?_, ?_⟩
  · refine Nat.le_trans (nodup_le _ ((pickL (fun i => decide (gd b i < 0)) 8).map h) hc.nodup fun j hj => ?_) (Nat.le_of_eq ((List.length_map ..).trans (pickL_neg b 8)))
    obtain ⟨⟨i, h1, h2, h3, h4⟩, h5⟩ := mem j hj
    have : ∃ k, k < 8 ∧ (maskK (usedF b) h j 8).testBit k = true ∧ gd b k < 0 := Classical.byContradiction fun hn => by
      have := (sumK_nn b (maskK (usedF b) h j 8) 8 fun k hk hb' => by
        refine Classical.byContradiction fun hh => hn ⟨k, hk, hb', by omega⟩).2 h5 i h1 h2
      exact h4 this
    obtain ⟨k, k1, k2, k3⟩ := this
    exact List.mem_map.2 ⟨k, pickL_mem _ 8 k k1 (by simpa using k3), inm j k k2⟩
  · refine Nat.le_trans (nodup_le _ ((pickL (fun i => decide (0 < gd b i)) 8).map h) hc.nodup fun j hj => ?_) (Nat.le_of_eq ((List.length_map ..).trans (pickL_pos b 8)))
    obtain ⟨⟨i, h1, h2, h3, h4⟩, h5⟩ := mem j hj
    have : ∃ k, k < 8 ∧ (maskK (usedF b) h j 8).testBit k = true ∧ 0 < gd b k := Classical.byContradiction fun hn => by
      have := (sumK_np b (maskK (usedF b) h j 8) 8 fun k hk hb' => by
        refine Classical.byContradiction fun hh => hn ⟨k, hk, hb', by omega⟩).2 h5 i h1 h2
      exact h4 this
    obtain ⟨k, k1, k2, k3⟩ := this
    exact List.mem_map.2 ⟨k, pickL_mem _ 8 k k1 (by simpa using k3), inm j k k2⟩
theorem few_eq {b : List Int} (hb : goodF b = true) : fewN b + (grpsF b).length = nzF b := by
  have h1 := (settF_spec hb).2.2
  unfold fewN
  omega
/-- Fewer than those whose balance is not 0, no fewer than those who pay, or are paid. -/
theorem few_sides {b : List Int} (hb : goodF b = true) : negK b 8 ≤ fewN b ∧ posK b 8 ≤ fewN b ∧ (nzF b = 0 ∧ fewN b = 0 ∨ fewN b < nzF b) := by
  have h1 := few_eq hb
  obtain ⟨h2, h3⟩ := grps_sides hb
  have h4 := nz_split b 8
  unfold nzF at *
  refine ⟨by omega, by omega, ?_⟩
  by_cases h0 : nzK b 8 = 0
  · exact .inl ⟨h0, by omega⟩
  · right
    have hex : ∀ n, nzK b n ≠ 0 → ∃ i, i < n ∧ gd b i ≠ 0 := fun n => by
      induction n with
      | zero => intro h; exact absurd rfl h
      | succ n ih =>
        intro h
        rw [nzK] at h
        by_cases e : gd b n = 0
        · rw [if_pos e] at h
          obtain ⟨i, hi, hne⟩ := ih h
          exact ⟨i, by omega, hne⟩
        · exact ⟨n, by omega, e⟩
    obtain ⟨i, hi, hne⟩ := hex 8 h0
    obtain ⟨g, hg, _⟩ := (grps_div hb).cover i (by rw [usedF_bit b i hi]; simpa using hne)
    have := List.length_pos_of_mem hg
    omega
/-- Two lists of balances that are put together. -/
theorem few_two {b one two : List Int} (hb : goodF b = true) (h1 : goodF one = true) (h2 : goodF two = true) (e1 : ∀ i, i < 8 → gd one i = if i < 4 then gd b i else 0) (e2 : ∀ i, i < 8 → gd two i = if i < 4 then 0 else gd b i) :
    fewN b ≤ fewN one + fewN two := by
  have hz : ∀ n, n ≤ 8 → nzK b n = nzK one n + nzK two n := fun n => by
    induction n with
    | zero => intro _; rfl
    | succ n ih =>
      intro hn
      have := ih (by omega)
      rw [nzK, nzK, nzK, e1 n (by omega), e2 n (by omega)]
      by_cases h4 : n < 4
      · simp only [if_pos h4]; simp; omega
      · simp only [if_neg h4]; simp; omega
  have hz := hz 8 (Nat.le_refl _)
  have u1 : ∀ i, (usedF one).testBit i = true → i < 4 ∧ (usedF b).testBit i = true := fun i hi => by
    have h8 := bit_lt (usedF_lt one) hi
    rw [usedF_bit one i h8, e1 i h8] at hi
    rw [usedF_bit b i h8]
    by_cases h4 : i < 4
    · rw [if_pos h4] at hi; exact ⟨h4, hi⟩
    · rw [if_neg h4] at hi; simp at hi
  have u2 : ∀ i, (usedF two).testBit i = true → ¬ i < 4 ∧ (usedF b).testBit i = true := fun i hi => by
    have h8 := bit_lt (usedF_lt two) hi
    rw [usedF_bit two i h8, e2 i h8] at hi
    rw [usedF_bit b i h8]
    by_cases h4 : i < 4
    · rw [if_pos h4] at hi; simp at hi
    · rw [if_neg h4] at hi; exact ⟨h4, hi⟩
  have d1 := grps_div h1
  have d2 := grps_div h2
  have hdiv : IsDiv b (usedF b) (grpsF one ++ grpsF two) := by
    refine IsDiv.mk (fun g hg => ?_) (List.pairwise_append.2 ⟨d1.apart, d2.apart, fun g hg g' hg' i hi => ?_⟩) (fun i hi => ?_)
    · rcases List.mem_append.1 hg with hg | hg
      · obtain ⟨a1, a2, a3⟩ := d1.each g hg
        refine ⟨?_, fun i hi => (u1 i (a2 i hi)).2, a3⟩
        rw [← a1]
        exact sumK_congr 8 fun i hi hb' => by rw [e1 i hi, if_pos (u1 i (a2 i hb')).1]
      · obtain ⟨a1, a2, a3⟩ := d2.each g hg
        refine ⟨?_, fun i hi => (u2 i (a2 i hi)).2, a3⟩
        rw [← a1]
        exact sumK_congr 8 fun i hi hb' => by rw [e2 i hi, if_neg (u2 i (a2 i hb')).1]
    · have := (u1 i ((d1.each g hg).2.1 i hi)).1
      cases hh : g'.testBit i with
      | false => rfl
      | true => exact absurd this (u2 i ((d2.each g' hg').2.1 i hh)).1
    · have h8 := bit_lt (usedF_lt b) hi
      rw [usedF_bit b i h8] at hi
      by_cases h4 : i < 4
      · obtain ⟨g, hg, hgi⟩ := d1.cover i (by rw [usedF_bit one i h8, e1 i h8, if_pos h4]; exact hi)
        exact ⟨g, List.mem_append.2 (.inl hg), hgi⟩
      · obtain ⟨g, hg, hgi⟩ := d2.cover i (by rw [usedF_bit two i h8, e2 i h8, if_neg h4]; exact hi)
        exact ⟨g, List.mem_append.2 (.inr hg), hgi⟩
  obtain ⟨h, hc⟩ := div_col (usedF_lt b) hdiv
  have hle := Col.le b 256 _ h _ (usedF_lt b) (usedF_lt b) (good_rng hb).2.2 hc
  rw [List.length_append] at hle
  have f0 := few_eq hb
  have f1 := few_eq h1
  have f2 := few_eq h2
  unfold nzF grpsF at *
  omega
end Go.Proofs.Ytjbgckjcbmmobaa

/- The law of chapter 39 that groups save payments. -/
set_option maxRecDepth 100000
set_option linter.unusedSimpArgs false
namespace Go.Proofs.Ytjbgckjcbmmobaa
open Go.Vai Go Go.Proofs

/-- A small balance. -/
def smG (y : List Int) (i : Nat) : Int := if i < y.length then pickF (gd y i) 13 - 6 else 0
theorem smG_in (y : List Int) (i : Nat) : -6 ≤ smG y i ∧ smG y i ≤ 6 := by
  have := pickF_in (c := gd y i) (n := 13) (by omega)
  unfold smG; split <;> omega
def smS (y : List Int) : Nat → Int
  | 0 => 0
  | i + 1 => smS y i - smG y i
theorem smS_in (y : List Int) : ∀ i : Nat, -(6 * (i : Int)) ≤ smS y i ∧ smS y i ≤ 6 * (i : Int)
  | 0 => by simp [smS]
  | i + 1 => by have := smS_in y i; have := smG_in y i; rw [smS]; omega
/-- The balances after so many. -/
def twoG (y z : List Int) (i c : Nat) : Int := if c < 3 then (if c < i then smG y c else 0) else if c = 3 then smS y i else if c < 7 then (if c - 4 < i then smG z (c - 4) else 0) else smS z i
theorem set_same {l : List Int} {i : Nat} {x : Int} (hi : i < l.length) (h : gd l i = x) : l = l.set i x :=
  gd_ext (by rw [List.length_set]) fun c _ => by
    rw [gd_set _ _ _ _ hi]
    split
    · rename_i e; subst e; exact h
    · rfl
set_option maxHeartbeats 1000000 in
theorem groups_ev (y z : List Int) (hl : y.length ≤ 9223372036854775807) (hl2 : z.length ≤ 9223372036854775807) (hy : ∀ a ∈ y, R64 a) (hz : ∀ a ∈ z, R64 a) : Ev Try.prog 7 [SL y, SL z] (B true) := by
  refine ev_of Try.func7 rfl (by kernel_rfl) mo (Nat.le_of_ble_eq_true rfl) ?_
  simp -implicitDefEqProofs (disch := omega) only [go_sem, ↓reduceIte, Nat.reduceEqDiff, Nat.reduceMul, Nat.reduceAdd, Nat.reduceDiv, Nat.reduceBEq, Nat.reduceLeDiff, Int.reduceToNat, Int.reduceNe, Int.reduceEq, Int.reduceLT, Int.reduceLE, Int.reduceBEq, Int.reduceBNe, ne_eq, not_true_eq_false, not_false_eq_true, decide_true, decide_false, List.length_map, Try.ntmps7]
  refine callC_at sane_ev ?_
  simp -implicitDefEqProofs (disch := omega) only [go_sem, ↓reduceIte, Nat.reduceEqDiff, Nat.reduceMul, Nat.reduceAdd, Nat.reduceDiv, Nat.reduceBEq, Nat.reduceLeDiff, Int.reduceToNat, Int.reduceNe, Int.reduceEq, Int.reduceLT, Int.reduceLE, Int.reduceBEq, Int.reduceBNe, ne_eq, not_true_eq_false, not_false_eq_true, decide_true, decide_false, List.length_map]
  refine loopC_mk (fun n E σ => ∃ (i : Nat) (q : List Int), i + n = 3 ∧ q.length = 8 ∧ (∀ c, c < 8 → gd q c = twoG y z i c) ∧ E 0 = SL y ∧ E 1 = SL z ∧ E 5 = .own 16777536 1 0 8 ∧ E 6 = I 0 ∧ E 7 = I i ∧ σ 16777536 = some ⟨3, 1, q.map I⟩) 3 ⟨0, [0, 0, 0, 0, 0, 0, 0, 0], rfl, rfl, ?_, ?_⟩ ?_
  · intro c hc
    have : c = 0 ∨ c = 1 ∨ c = 2 ∨ c = 3 ∨ c = 4 ∨ c = 5 ∨ c = 6 ∨ c = 7 := by omega
    rcases this with rfl | rfl | rfl | rfl | rfl | rfl | rfl | rfl <;> rfl
  · simp -implicitDefEqProofs (disch := omega) only [go_sem, ↓reduceIte, Nat.reduceEqDiff, Nat.reduceMul, Nat.reduceAdd, Nat.reduceDiv, Nat.reduceBEq, Nat.reduceLeDiff, Int.reduceToNat, Int.reduceNe, Int.reduceEq, Int.reduceLT, Int.reduceLE, Int.reduceBEq, Int.reduceBNe, ne_eq, not_true_eq_false, not_false_eq_true, decide_true, decide_false, List.length_map]
    exact ⟨rfl, rfl⟩
  · rintro n E σ ⟨i, q, hi, hq, hall, h0, h1, h5, h6, h7, m5⟩
    simp -implicitDefEqProofs (disch := omega) only [go_sem, ↓reduceIte, Nat.reduceEqDiff, Nat.reduceMul, Nat.reduceAdd, Nat.reduceDiv, Nat.reduceBEq, Nat.reduceLeDiff, Int.reduceToNat, Int.reduceNe, Int.reduceEq, Int.reduceLT, Int.reduceLE, Int.reduceBEq, Int.reduceBNe, ne_eq, not_true_eq_false, not_false_eq_true, decide_true, decide_false, List.length_map, h0, h1, h5, h6, h7, m5]
    refine branch_mk (fun hc => ?_) (fun hc => ?_)
    · have hi3 : i < 3 := by omega
      have gy := smG_in y i
      have gz := smG_in z i
      have sy := smS_in y i
      have sz := smS_in z i
      -- the first list
      have join : ∀ (q1 : List Int), q1.length = 8 → (∀ c, c < 8 → gd q1 c = if c = i then smG y i else if c = 4 + i then smG z i else gd q c) →
          IntKind.i64.wrap (gd q1 3 - gd q1 i) = gd q1 3 - gd q1 i ∧ IntKind.i64.wrap (gd (q1.set 3 (gd q1 3 - gd q1 i)) 7 - gd (q1.set 3 (gd q1 3 - gd q1 i)) (4 + i)) = gd (q1.set 3 (gd q1 3 - gd q1 i)) 7 - gd (q1.set 3 (gd q1 3 - gd q1 i)) (4 + i) ∧
          ((q1.set 3 (gd q1 3 - gd q1 i)).set 7 (gd (q1.set 3 (gd q1 3 - gd q1 i)) 7 - gd (q1.set 3 (gd q1 3 - gd q1 i)) (4 + i))).length = 8 ∧
          ∀ c, c < 8 → gd ((q1.set 3 (gd q1 3 - gd q1 i)).set 7 (gd (q1.set 3 (gd q1 3 - gd q1 i)) 7 - gd (q1.set 3 (gd q1 3 - gd q1 i)) (4 + i))) c = twoG y z (i + 1) c := fun q1 hq1 h => by
        have v3 : gd q1 3 = smS y i := by rw [h 3 (by omega), if_neg (by omega), if_neg (by omega), hall 3 (by omega)]; rfl
        have vi : gd q1 i = smG y i := by rw [h i (by omega), if_pos rfl]
        have e7 : gd (q1.set 3 (gd q1 3 - gd q1 i)) 7 = smS z i := by rw [gd_set _ _ _ _ (by omega), if_neg (by omega), h 7 (by omega), if_neg (by omega), if_neg (by omega), hall 7 (by omega)]; rfl
        have e4 : gd (q1.set 3 (gd q1 3 - gd q1 i)) (4 + i) = smG z i := by rw [gd_set _ _ _ _ (by omega), if_neg (by omega), h (4 + i) (by omega), if_neg (by omega), if_pos rfl]
        refine ⟨wrap64_of (by omega), wrap64_of (by omega), by rw [List.length_set, List.length_set, hq1], fun c hc => ?_⟩
        rw [gd_set _ _ _ _ (by rw [List.length_set]; omega), e7, e4, gd_set _ _ _ _ (by omega), v3, vi, h c hc, hall c hc]
        unfold twoG
        by_cases c7 : c = 7
        · subst c7; simp; rfl
        · by_cases c3 : c = 3
          · subst c3; simp; rfl
          · rw [if_neg c7, if_neg c3]
            by_cases c1 : c < 3
            · rw [if_pos c1, if_pos c1]
              by_cases e : c = i
              · subst e; rw [if_pos rfl, if_pos (by omega)]
              · rw [if_neg e, if_neg (by omega)]
                by_cases h2 : c < i
                · rw [if_pos h2, if_pos (by omega)]
                · rw [if_neg h2, if_neg (by omega)]
            · have c7' : c < 7 := by omega
              have ci : ¬ c = i := by omega
              simp only [ci, c1, c3, c7', if_true, if_false]
              by_cases e : c = 4 + i
              · subst e
                simp only [if_true, Nat.add_sub_cancel_left, Nat.lt_succ_self]
              · simp only [e, if_false]
                by_cases h2 : c - 4 < i
                · rw [if_pos h2, if_pos (by omega)]
                · rw [if_neg h2, if_neg (by omega)]
      have vi0 : gd q i = 0 := by rw [hall i (by omega), twoG, if_pos hi3, if_neg (by omega)]
      have v40 : gd q (4 + i) = 0 := by rw [hall (4 + i) (by omega), twoG, if_neg (by omega), if_neg (by omega), if_pos (by omega), if_neg (by omega)]
      have tn : ((4 : Int) + (i : Int)).toNat = 4 + i := by omega
      simp -implicitDefEqProofs (disch := omega) only [go_sem, ↓reduceIte, Nat.reduceEqDiff, Nat.reduceMul, Nat.reduceAdd, Nat.reduceDiv, Nat.reduceBEq, Nat.reduceLeDiff, Int.reduceToNat, Int.reduceNe, Int.reduceEq, Int.reduceLT, Int.reduceLE, Int.reduceBEq, Int.reduceBNe, ne_eq, not_true_eq_false, not_false_eq_true, decide_true, decide_false, List.length_map, h0, h1, h5, h6, h7, m5]
      refine branch_mk (fun hby => ?_) (fun hby => ?_)
      · have hpy := pick_ev (gd y i) 13 (hy _ (gd_mem y i (by omega))) (by omega)
        have hgy : pickF (gd y i) 13 - 6 = smG y i := by rw [smG, if_pos (by omega)]
        have hwy : IntKind.i64.wrap (pickF (gd y i) 13 - 6) = smG y i := by rw [hgy]; exact wrap64_of (by omega)
        simp -implicitDefEqProofs (disch := omega) only [go_sem, ↓reduceIte, Nat.reduceEqDiff, Nat.reduceMul, Nat.reduceAdd, Nat.reduceDiv, Nat.reduceBEq, Nat.reduceLeDiff, Int.reduceToNat, Int.reduceNe, Int.reduceEq, Int.reduceLT, Int.reduceLE, Int.reduceBEq, Int.reduceBNe, ne_eq, not_true_eq_false, not_false_eq_true, decide_true, decide_false, List.length_map, h0, h1, h5, h6, h7, m5]
        refine callC_at hpy ?_
        simp -implicitDefEqProofs (disch := omega) only [go_sem, ↓reduceIte, Nat.reduceEqDiff, Nat.reduceMul, Nat.reduceAdd, Nat.reduceDiv, Nat.reduceBEq, Nat.reduceLeDiff, Int.reduceToNat, Int.reduceNe, Int.reduceEq, Int.reduceLT, Int.reduceLE, Int.reduceBEq, Int.reduceBNe, ne_eq, not_true_eq_false, not_false_eq_true, decide_true, decide_false, List.length_map, h0, h1, h5, h6, h7, m5, hwy, hgy, hq]
        refine branch_mk (fun hbz => ?_) (fun hbz => ?_)
        · have hpz := pick_ev (gd z i) 13 (hz _ (gd_mem z i (by omega))) (by omega)
          have hgz : pickF (gd z i) 13 - 6 = smG z i := by rw [smG, if_pos (by omega)]
          have hwz : IntKind.i64.wrap (pickF (gd z i) 13 - 6) = smG z i := by rw [hgz]; exact wrap64_of (by omega)
          obtain ⟨j1, j2, j3, j4⟩ := join ((q.set i (smG y i)).set (4 + i) (smG z i)) (by rw [List.length_set, List.length_set, hq]) (fun c hc => by
            rw [gd_set _ _ _ _ (by rw [List.length_set]; omega), gd_set _ _ _ _ (by omega)]
            by_cases e1 : c = i
            · rw [if_pos e1, if_neg (by omega), if_pos e1]
            · rw [if_neg e1, if_neg e1])
          simp -implicitDefEqProofs (disch := omega) only [go_sem, ↓reduceIte, Nat.reduceEqDiff, Nat.reduceMul, Nat.reduceAdd, Nat.reduceDiv, Nat.reduceBEq, Nat.reduceLeDiff, Int.reduceToNat, Int.reduceNe, Int.reduceEq, Int.reduceLT, Int.reduceLE, Int.reduceBEq, Int.reduceBNe, ne_eq, not_true_eq_false, not_false_eq_true, decide_true, decide_false, List.length_map, h0, h1, h5, h6, h7, m5, hq]
          refine callC_at hpz ?_
          simp -implicitDefEqProofs (disch := omega) only [go_sem, ↓reduceIte, Nat.reduceEqDiff, Nat.reduceMul, Nat.reduceAdd, Nat.reduceDiv, Nat.reduceBEq, Nat.reduceLeDiff, Int.reduceToNat, Int.reduceNe, Int.reduceEq, Int.reduceLT, Int.reduceLE, Int.reduceBEq, Int.reduceBNe, ne_eq, not_true_eq_false, not_false_eq_true, decide_true, decide_false, List.length_map, h0, h1, h5, h6, h7, m5, hwz, hgz, hq, tn, j1, j2]
          refine againQ_mk (n - 1) (by omega) ⟨i + 1, _, by omega, j3, j4, ?_⟩
          simp -implicitDefEqProofs (disch := omega) only [go_sem, ↓reduceIte, Nat.reduceEqDiff, Nat.reduceMul, Nat.reduceAdd, Nat.reduceDiv, Nat.reduceBEq, Nat.reduceLeDiff, Int.reduceToNat, Int.reduceNe, Int.reduceEq, Int.reduceLT, Int.reduceLE, Int.reduceBEq, Int.reduceBNe, ne_eq, not_true_eq_false, not_false_eq_true, decide_true, decide_false, List.length_map, h0, h1, h5, h6, h7, m5, hwz, hgz, hq, tn]
          simp
        · have hgz : smG z i = 0 := by rw [smG, if_neg (by omega)]
          obtain ⟨j1, j2, j3, j4⟩ := join (q.set i (smG y i)) (by rw [List.length_set, hq]) (fun c hc => by
            rw [gd_set _ _ _ _ (by omega), hgz]
            by_cases e1 : c = i
            · rw [if_pos e1, if_pos e1]
            · rw [if_neg e1, if_neg e1]
              by_cases e2 : c = 4 + i
              · subst e2; rw [if_pos rfl, v40]
              · rw [if_neg e2])
          simp -implicitDefEqProofs (disch := omega) only [go_sem, ↓reduceIte, Nat.reduceEqDiff, Nat.reduceMul, Nat.reduceAdd, Nat.reduceDiv, Nat.reduceBEq, Nat.reduceLeDiff, Int.reduceToNat, Int.reduceNe, Int.reduceEq, Int.reduceLT, Int.reduceLE, Int.reduceBEq, Int.reduceBNe, ne_eq, not_true_eq_false, not_false_eq_true, decide_true, decide_false, List.length_map, h0, h1, h5, h6, h7, m5, hq, tn, j1, j2]
          refine againQ_mk (n - 1) (by omega) ⟨i + 1, _, by omega, j3, j4, ?_⟩
          simp -implicitDefEqProofs (disch := omega) only [go_sem, ↓reduceIte, Nat.reduceEqDiff, Nat.reduceMul, Nat.reduceAdd, Nat.reduceDiv, Nat.reduceBEq, Nat.reduceLeDiff, Int.reduceToNat, Int.reduceNe, Int.reduceEq, Int.reduceLT, Int.reduceLE, Int.reduceBEq, Int.reduceBNe, ne_eq, not_true_eq_false, not_false_eq_true, decide_true, decide_false, List.length_map, h0, h1, h5, h6, h7, m5, hq, tn]
          simp
      · have hgy : smG y i = 0 := by rw [smG, if_neg (by omega)]
        simp -implicitDefEqProofs (disch := omega) only [go_sem, ↓reduceIte, Nat.reduceEqDiff, Nat.reduceMul, Nat.reduceAdd, Nat.reduceDiv, Nat.reduceBEq, Nat.reduceLeDiff, Int.reduceToNat, Int.reduceNe, Int.reduceEq, Int.reduceLT, Int.reduceLE, Int.reduceBEq, Int.reduceBNe, ne_eq, not_true_eq_false, not_false_eq_true, decide_true, decide_false, List.length_map, h0, h1, h5, h6, h7, m5, hq]
        refine branch_mk (fun hbz => ?_) (fun hbz => ?_)
        · have hpz := pick_ev (gd z i) 13 (hz _ (gd_mem z i (by omega))) (by omega)
          have hgz : pickF (gd z i) 13 - 6 = smG z i := by rw [smG, if_pos (by omega)]
          have hwz : IntKind.i64.wrap (pickF (gd z i) 13 - 6) = smG z i := by rw [hgz]; exact wrap64_of (by omega)
          obtain ⟨j1, j2, j3, j4⟩ := join (q.set (4 + i) (smG z i)) (by rw [List.length_set, hq]) (fun c hc => by
            rw [gd_set _ _ _ _ (by omega), hgy]
            by_cases e1 : c = i
            · subst e1; rw [if_neg (by omega), if_pos rfl, vi0]
            · rw [if_neg e1])
          simp -implicitDefEqProofs (disch := omega) only [go_sem, ↓reduceIte, Nat.reduceEqDiff, Nat.reduceMul, Nat.reduceAdd, Nat.reduceDiv, Nat.reduceBEq, Nat.reduceLeDiff, Int.reduceToNat, Int.reduceNe, Int.reduceEq, Int.reduceLT, Int.reduceLE, Int.reduceBEq, Int.reduceBNe, ne_eq, not_true_eq_false, not_false_eq_true, decide_true, decide_false, List.length_map, h0, h1, h5, h6, h7, m5, hq]
          refine callC_at hpz ?_
          simp -implicitDefEqProofs (disch := omega) only [go_sem, ↓reduceIte, Nat.reduceEqDiff, Nat.reduceMul, Nat.reduceAdd, Nat.reduceDiv, Nat.reduceBEq, Nat.reduceLeDiff, Int.reduceToNat, Int.reduceNe, Int.reduceEq, Int.reduceLT, Int.reduceLE, Int.reduceBEq, Int.reduceBNe, ne_eq, not_true_eq_false, not_false_eq_true, decide_true, decide_false, List.length_map, h0, h1, h5, h6, h7, m5, hwz, hgz, hq, tn, j1, j2]
          refine againQ_mk (n - 1) (by omega) ⟨i + 1, _, by omega, j3, j4, ?_⟩
          simp -implicitDefEqProofs (disch := omega) only [go_sem, ↓reduceIte, Nat.reduceEqDiff, Nat.reduceMul, Nat.reduceAdd, Nat.reduceDiv, Nat.reduceBEq, Nat.reduceLeDiff, Int.reduceToNat, Int.reduceNe, Int.reduceEq, Int.reduceLT, Int.reduceLE, Int.reduceBEq, Int.reduceBNe, ne_eq, not_true_eq_false, not_false_eq_true, decide_true, decide_false, List.length_map, h0, h1, h5, h6, h7, m5, hwz, hgz, hq, tn]
          simp
        · have hgz : smG z i = 0 := by rw [smG, if_neg (by omega)]
          obtain ⟨j1, j2, j3, j4⟩ := join q hq (fun c hc => by
            rw [hgy, hgz]
            by_cases e1 : c = i
            · subst e1; rw [if_pos rfl, vi0]
            · rw [if_neg e1]
              by_cases e2 : c = 4 + i
              · subst e2; rw [if_pos rfl, v40]
              · rw [if_neg e2])
          simp -implicitDefEqProofs (disch := omega) only [go_sem, ↓reduceIte, Nat.reduceEqDiff, Nat.reduceMul, Nat.reduceAdd, Nat.reduceDiv, Nat.reduceBEq, Nat.reduceLeDiff, Int.reduceToNat, Int.reduceNe, Int.reduceEq, Int.reduceLT, Int.reduceLE, Int.reduceBEq, Int.reduceBNe, ne_eq, not_true_eq_false, not_false_eq_true, decide_true, decide_false, List.length_map, h0, h1, h5, h6, h7, m5, hq, tn, j1, j2]
          refine againQ_mk (n - 1) (by omega) ⟨i + 1, _, by omega, j3, j4, ?_⟩
          simp -implicitDefEqProofs (disch := omega) only [go_sem, ↓reduceIte, Nat.reduceEqDiff, Nat.reduceMul, Nat.reduceAdd, Nat.reduceDiv, Nat.reduceBEq, Nat.reduceLeDiff, Int.reduceToNat, Int.reduceNe, Int.reduceEq, Int.reduceLT, Int.reduceLE, Int.reduceBEq, Int.reduceBNe, ne_eq, not_true_eq_false, not_false_eq_true, decide_true, decide_false, List.length_map, h0, h1, h5, h6, h7, m5, hq, tn]
          simp
    · have : i = 3 := by omega
      subst this
      have hb : goodF q = true ∧ gd q 0 + gd q 1 + gd q 2 + gd q 3 = 0 ∧ gd q 4 + gd q 5 + gd q 6 + gd q 7 = 0 ∧ ∀ c, c < 8 → -18 ≤ gd q c ∧ gd q c ≤ 18 := by
        have r0 := smG_in y 0
        have r1 := smG_in y 1
        have r2 := smG_in y 2
        have z0 := smG_in z 0
        have z1 := smG_in z 1
        have z2 := smG_in z 2
        have s0 : gd q 0 = smG y 0 := hall 0 (by omega)
        have s1 : gd q 1 = smG y 1 := hall 1 (by omega)
        have s2 : gd q 2 = smG y 2 := hall 2 (by omega)
        have s3 : gd q 3 = 0 - smG y 0 - smG y 1 - smG y 2 := hall 3 (by omega)
        have s4 : gd q 4 = smG z 0 := hall 4 (by omega)
        have s5 : gd q 5 = smG z 1 := hall 5 (by omega)
        have s6 : gd q 6 = smG z 2 := hall 6 (by omega)
        have s7 : gd q 7 = 0 - smG z 0 - smG z 1 - smG z 2 := hall 7 (by omega)
        have hr : ∀ c, c < 8 → -18 ≤ gd q c ∧ gd q c ≤ 18 := fun c hc => by
          have : c = 0 ∨ c = 1 ∨ c = 2 ∨ c = 3 ∨ c = 4 ∨ c = 5 ∨ c = 6 ∨ c = 7 := by omega
          rcases this with rfl | rfl | rfl | rfl | rfl | rfl | rfl | rfl <;> omega
        refine ⟨(goodF_iff _).2 ⟨fun i hi => (inF_iff _ _ _).2 (by have := hr i (by omega); omega), hq, ?_⟩, by omega, by omega, hr⟩
        rw [sum8 q hq]; simp only [sumN]; omega
      obtain ⟨hb, hs1, hs2, hr⟩ := hb
      have hsd := few_sides hb
      have hnz := nz_split q 8
      have hn8 := nzK_le q 8
      have hfe := few_eq hb
      simp -implicitDefEqProofs (disch := omega) only [go_sem, ↓reduceIte, Nat.reduceEqDiff, Nat.reduceMul, Nat.reduceAdd, Nat.reduceDiv, Nat.reduceBEq, Nat.reduceLeDiff, Int.reduceToNat, Int.reduceNe, Int.reduceEq, Int.reduceLT, Int.reduceLE, Int.reduceBEq, Int.reduceBNe, ne_eq, not_true_eq_false, not_false_eq_true, decide_true, decide_false, List.length_map, h0, h1, h5, h6, h7, m5]
      refine loopC_mk (fun n E σ => ∃ (i : Nat) (o w : List Int), i + n = 8 ∧ o.length = 8 ∧ w.length = 8 ∧ (∀ c, c < 8 → gd o c = if c < i ∧ c < 4 then gd q c else 0) ∧ (∀ c, c < 8 → gd w c = if c < i ∧ ¬ c < 4 then gd q c else 0) ∧
        E 5 = .own 16777536 1 0 8 ∧ E 6 = I (nzK q i) ∧ E 8 = .own 16778384 1 0 8 ∧ E 9 = .own 16778400 1 0 8 ∧ E 10 = I (negK q i) ∧ E 11 = I i ∧ σ 16777536 = some ⟨3, 1, q.map I⟩ ∧ σ 16778384 = some ⟨3, 1, o.map I⟩ ∧ σ 16778400 = some ⟨3, 1, w.map I⟩) 8
        ⟨0, [0, 0, 0, 0, 0, 0, 0, 0], [0, 0, 0, 0, 0, 0, 0, 0], rfl, rfl, rfl, ?_, ?_, ?_⟩ ?_
      · intro c hc
        have : c = 0 ∨ c = 1 ∨ c = 2 ∨ c = 3 ∨ c = 4 ∨ c = 5 ∨ c = 6 ∨ c = 7 := by omega
        rcases this with rfl | rfl | rfl | rfl | rfl | rfl | rfl | rfl <;> rfl
      · intro c hc
        have : c = 0 ∨ c = 1 ∨ c = 2 ∨ c = 3 ∨ c = 4 ∨ c = 5 ∨ c = 6 ∨ c = 7 := by omega
        rcases this with rfl | rfl | rfl | rfl | rfl | rfl | rfl | rfl <;> rfl
      · simp -implicitDefEqProofs (disch := omega) only [go_sem, ↓reduceIte, Nat.reduceEqDiff, Nat.reduceMul, Nat.reduceAdd, Nat.reduceDiv, Nat.reduceBEq, Nat.reduceLeDiff, Int.reduceToNat, Int.reduceNe, Int.reduceEq, Int.reduceLT, Int.reduceLE, Int.reduceBEq, Int.reduceBNe, ne_eq, not_true_eq_false, not_false_eq_true, decide_true, decide_false, List.length_map, h0, h1, h5, h6, h7, m5]
        exact ⟨rfl, rfl, rfl, rfl, rfl⟩
      · clear h0 h1 h5 h6 h7 m5 hi hc E σ
        rintro n E σ ⟨i, o, w, hi, ho, hw, hoa, hwa, h5, h6, h8, h9, h10, h11, m5, m8, m9⟩
        simp -implicitDefEqProofs (disch := omega) only [go_sem, ↓reduceIte, Nat.reduceEqDiff, Nat.reduceMul, Nat.reduceAdd, Nat.reduceDiv, Nat.reduceBEq, Nat.reduceLeDiff, Int.reduceToNat, Int.reduceNe, Int.reduceEq, Int.reduceLT, Int.reduceLE, Int.reduceBEq, Int.reduceBNe, ne_eq, not_true_eq_false, not_false_eq_true, decide_true, decide_false, List.length_map, h5, h6, h8, h9, h10, h11, m5, m8, m9]
        refine branch_mk (fun hc => ?_) (fun hc => ?_)
        · have hrest : ∀ (o' w' : List Int), (i < 4 → o' = o.set i (gd q i) ∧ w' = w) → (¬ i < 4 → o' = o ∧ w' = w.set i (gd q i)) → o'.length = 8 ∧ w'.length = 8 ∧ (∀ c, c < 8 → gd o' c = if c < i + 1 ∧ c < 4 then gd q c else 0) ∧ (∀ c, c < 8 → gd w' c = if c < i + 1 ∧ ¬ c < 4 then gd q c else 0) := fun o' w' ha hb' => by
            by_cases h4 : i < 4
            · obtain ⟨rfl, rfl⟩ := ha h4
              refine ⟨by rw [List.length_set, ho], hw, fun c hc => ?_, fun c hc => ?_⟩
              · rw [gd_set _ _ _ _ (by omega)]
                by_cases e : c = i
                · subst e; rw [if_pos rfl, if_pos ⟨by omega, h4⟩]
                · rw [if_neg e, hoa c hc]
                  by_cases h : c < i ∧ c < 4
                  · rw [if_pos h, if_pos ⟨by omega, h.2⟩]
                  · rw [if_neg h, if_neg (by omega)]
              · rw [hwa c hc]
                by_cases h : c < i ∧ ¬ c < 4
                · omega
                · rw [if_neg h, if_neg (by omega)]
            · obtain ⟨rfl, rfl⟩ := hb' h4
              refine ⟨ho, by rw [List.length_set, hw], fun c hc => ?_, fun c hc => ?_⟩
              · rw [hoa c hc]
                by_cases h : c < i ∧ c < 4
                · rw [if_pos h, if_pos ⟨by omega, h.2⟩]
                · rw [if_neg h, if_neg (by omega)]
              · rw [gd_set _ _ _ _ (by omega)]
                by_cases e : c = i
                · subst e; rw [if_pos rfl, if_pos ⟨by omega, h4⟩]
                · rw [if_neg e, hwa c hc]
                  by_cases h : c < i ∧ ¬ c < 4
                  · rw [if_pos h, if_pos ⟨by omega, h.2⟩]
                  · rw [if_neg h, if_neg (by omega)]
          have hni := nzK_le q i
          have hng : negK q i ≤ i := by have := nz_split q i; omega
          simp -implicitDefEqProofs (disch := omega) only [go_sem, ↓reduceIte, Nat.reduceEqDiff, Nat.reduceMul, Nat.reduceAdd, Nat.reduceDiv, Nat.reduceBEq, Nat.reduceLeDiff, Int.reduceToNat, Int.reduceNe, Int.reduceEq, Int.reduceLT, Int.reduceLE, Int.reduceBEq, Int.reduceBNe, ne_eq, not_true_eq_false, not_false_eq_true, decide_true, decide_false, List.length_map, h5, h6, h8, h9, h10, h11, m5, m8, m9, hq, ho, hw]
          refine branch_mk (fun h4 => ?_) (fun h4 => ?_)
          · simp -implicitDefEqProofs (disch := omega) only [go_sem, ↓reduceIte, Nat.reduceEqDiff, Nat.reduceMul, Nat.reduceAdd, Nat.reduceDiv, Nat.reduceBEq, Nat.reduceLeDiff, Int.reduceToNat, Int.reduceNe, Int.reduceEq, Int.reduceLT, Int.reduceLE, Int.reduceBEq, Int.reduceBNe, ne_eq, not_true_eq_false, not_false_eq_true, decide_true, decide_false, List.length_map, h5, h6, h8, h9, h10, h11, m5, m8, m9, hq, ho, hw]
            have h4' : i < 4 := by omega
            obtain ⟨a1, a2, a3, a4⟩ := hrest (o.set i (gd q i)) w (fun _ => ⟨rfl, rfl⟩) (fun h => absurd h4' h)
            refine branch_mk (fun hne => ?_) (fun hne => ?_)
            · simp -implicitDefEqProofs (disch := omega) only [go_sem, ↓reduceIte, Nat.reduceEqDiff, Nat.reduceMul, Nat.reduceAdd, Nat.reduceDiv, Nat.reduceBEq, Nat.reduceLeDiff, Int.reduceToNat, Int.reduceNe, Int.reduceEq, Int.reduceLT, Int.reduceLE, Int.reduceBEq, Int.reduceBNe, ne_eq, not_true_eq_false, not_false_eq_true, decide_true, decide_false, List.length_map, h5, h6, h8, h9, h10, h11, m5, m8, m9, hq, ho, hw]
              refine branch_mk (fun hng => ?_) (fun hng => ?_)
              · have k1 : nzK q (i + 1) = nzK q i + 1 := by rw [nzK, if_neg (by omega)]
                have k2 : negK q (i + 1) = negK q i + 1 := by rw [negK, if_pos (by omega)]
                simp -implicitDefEqProofs (disch := omega) only [go_sem, ↓reduceIte, Nat.reduceEqDiff, Nat.reduceMul, Nat.reduceAdd, Nat.reduceDiv, Nat.reduceBEq, Nat.reduceLeDiff, Int.reduceToNat, Int.reduceNe, Int.reduceEq, Int.reduceLT, Int.reduceLE, Int.reduceBEq, Int.reduceBNe, ne_eq, not_true_eq_false, not_false_eq_true, decide_true, decide_false, List.length_map, h5, h6, h8, h9, h10, h11, m5, m8, m9, hq, ho, hw]
                refine againQ_mk (n - 1) (by omega) ⟨i + 1, _, _, by omega, a1, a2, a3, a4, ?_⟩
                simp -implicitDefEqProofs (disch := omega) only [go_sem, ↓reduceIte, Nat.reduceEqDiff, Nat.reduceMul, Nat.reduceAdd, Nat.reduceDiv, Nat.reduceBEq, Nat.reduceLeDiff, Int.reduceToNat, Int.reduceNe, Int.reduceEq, Int.reduceLT, Int.reduceLE, Int.reduceBEq, Int.reduceBNe, ne_eq, not_true_eq_false, not_false_eq_true, decide_true, decide_false, List.length_map, h5, h6, h8, h9, h10, h11, m5, m8, m9, hq, ho, hw, k1, k2]
                simp
              · have k1 : nzK q (i + 1) = nzK q i + 1 := by rw [nzK, if_neg (by omega)]
                have k2 : negK q (i + 1) = negK q i := by rw [negK, if_neg (by omega)]; rfl
                simp -implicitDefEqProofs (disch := omega) only [go_sem, ↓reduceIte, Nat.reduceEqDiff, Nat.reduceMul, Nat.reduceAdd, Nat.reduceDiv, Nat.reduceBEq, Nat.reduceLeDiff, Int.reduceToNat, Int.reduceNe, Int.reduceEq, Int.reduceLT, Int.reduceLE, Int.reduceBEq, Int.reduceBNe, ne_eq, not_true_eq_false, not_false_eq_true, decide_true, decide_false, List.length_map, h5, h6, h8, h9, h10, h11, m5, m8, m9, hq, ho, hw]
                refine againQ_mk (n - 1) (by omega) ⟨i + 1, _, _, by omega, a1, a2, a3, a4, ?_⟩
                simp -implicitDefEqProofs (disch := omega) only [go_sem, ↓reduceIte, Nat.reduceEqDiff, Nat.reduceMul, Nat.reduceAdd, Nat.reduceDiv, Nat.reduceBEq, Nat.reduceLeDiff, Int.reduceToNat, Int.reduceNe, Int.reduceEq, Int.reduceLT, Int.reduceLE, Int.reduceBEq, Int.reduceBNe, ne_eq, not_true_eq_false, not_false_eq_true, decide_true, decide_false, List.length_map, h5, h6, h8, h9, h10, h11, m5, m8, m9, hq, ho, hw, k1, k2]
                simp
            · simp -implicitDefEqProofs (disch := omega) only [go_sem, ↓reduceIte, Nat.reduceEqDiff, Nat.reduceMul, Nat.reduceAdd, Nat.reduceDiv, Nat.reduceBEq, Nat.reduceLeDiff, Int.reduceToNat, Int.reduceNe, Int.reduceEq, Int.reduceLT, Int.reduceLE, Int.reduceBEq, Int.reduceBNe, ne_eq, not_true_eq_false, not_false_eq_true, decide_true, decide_false, List.length_map, h5, h6, h8, h9, h10, h11, m5, m8, m9, hq, ho, hw]
              refine branch_mk (fun hng => ?_) (fun hng => ?_)
              · exfalso; omega
              · have k1 : nzK q (i + 1) = nzK q i := by rw [nzK, if_pos (by omega)]; rfl
                have k2 : negK q (i + 1) = negK q i := by rw [negK, if_neg (by omega)]; rfl
                simp -implicitDefEqProofs (disch := omega) only [go_sem, ↓reduceIte, Nat.reduceEqDiff, Nat.reduceMul, Nat.reduceAdd, Nat.reduceDiv, Nat.reduceBEq, Nat.reduceLeDiff, Int.reduceToNat, Int.reduceNe, Int.reduceEq, Int.reduceLT, Int.reduceLE, Int.reduceBEq, Int.reduceBNe, ne_eq, not_true_eq_false, not_false_eq_true, decide_true, decide_false, List.length_map, h5, h6, h8, h9, h10, h11, m5, m8, m9, hq, ho, hw]
                refine againQ_mk (n - 1) (by omega) ⟨i + 1, _, _, by omega, a1, a2, a3, a4, ?_⟩
                simp -implicitDefEqProofs (disch := omega) only [go_sem, ↓reduceIte, Nat.reduceEqDiff, Nat.reduceMul, Nat.reduceAdd, Nat.reduceDiv, Nat.reduceBEq, Nat.reduceLeDiff, Int.reduceToNat, Int.reduceNe, Int.reduceEq, Int.reduceLT, Int.reduceLE, Int.reduceBEq, Int.reduceBNe, ne_eq, not_true_eq_false, not_false_eq_true, decide_true, decide_false, List.length_map, h5, h6, h8, h9, h10, h11, m5, m8, m9, hq, ho, hw, k1, k2]
                simp
          · simp -implicitDefEqProofs (disch := omega) only [go_sem, ↓reduceIte, Nat.reduceEqDiff, Nat.reduceMul, Nat.reduceAdd, Nat.reduceDiv, Nat.reduceBEq, Nat.reduceLeDiff, Int.reduceToNat, Int.reduceNe, Int.reduceEq, Int.reduceLT, Int.reduceLE, Int.reduceBEq, Int.reduceBNe, ne_eq, not_true_eq_false, not_false_eq_true, decide_true, decide_false, List.length_map, h5, h6, h8, h9, h10, h11, m5, m8, m9, hq, ho, hw]
            have h4' : ¬ i < 4 := by omega
            obtain ⟨a1, a2, a3, a4⟩ := hrest o (w.set i (gd q i)) (fun h => absurd h h4') (fun _ => ⟨rfl, rfl⟩)
            refine branch_mk (fun hne => ?_) (fun hne => ?_)
            · simp -implicitDefEqProofs (disch := omega) only [go_sem, ↓reduceIte, Nat.reduceEqDiff, Nat.reduceMul, Nat.reduceAdd, Nat.reduceDiv, Nat.reduceBEq, Nat.reduceLeDiff, Int.reduceToNat, Int.reduceNe, Int.reduceEq, Int.reduceLT, Int.reduceLE, Int.reduceBEq, Int.reduceBNe, ne_eq, not_true_eq_false, not_false_eq_true, decide_true, decide_false, List.length_map, h5, h6, h8, h9, h10, h11, m5, m8, m9, hq, ho, hw]
              refine branch_mk (fun hng => ?_) (fun hng => ?_)
              · have k1 : nzK q (i + 1) = nzK q i + 1 := by rw [nzK, if_neg (by omega)]
                have k2 : negK q (i + 1) = negK q i + 1 := by rw [negK, if_pos (by omega)]
                simp -implicitDefEqProofs (disch := omega) only [go_sem, ↓reduceIte, Nat.reduceEqDiff, Nat.reduceMul, Nat.reduceAdd, Nat.reduceDiv, Nat.reduceBEq, Nat.reduceLeDiff, Int.reduceToNat, Int.reduceNe, Int.reduceEq, Int.reduceLT, Int.reduceLE, Int.reduceBEq, Int.reduceBNe, ne_eq, not_true_eq_false, not_false_eq_true, decide_true, decide_false, List.length_map, h5, h6, h8, h9, h10, h11, m5, m8, m9, hq, ho, hw]
                refine againQ_mk (n - 1) (by omega) ⟨i + 1, _, _, by omega, a1, a2, a3, a4, ?_⟩
                simp -implicitDefEqProofs (disch := omega) only [go_sem, ↓reduceIte, Nat.reduceEqDiff, Nat.reduceMul, Nat.reduceAdd, Nat.reduceDiv, Nat.reduceBEq, Nat.reduceLeDiff, Int.reduceToNat, Int.reduceNe, Int.reduceEq, Int.reduceLT, Int.reduceLE, Int.reduceBEq, Int.reduceBNe, ne_eq, not_true_eq_false, not_false_eq_true, decide_true, decide_false, List.length_map, h5, h6, h8, h9, h10, h11, m5, m8, m9, hq, ho, hw, k1, k2]
                simp
              · have k1 : nzK q (i + 1) = nzK q i + 1 := by rw [nzK, if_neg (by omega)]
                have k2 : negK q (i + 1) = negK q i := by rw [negK, if_neg (by omega)]; rfl
                simp -implicitDefEqProofs (disch := omega) only [go_sem, ↓reduceIte, Nat.reduceEqDiff, Nat.reduceMul, Nat.reduceAdd, Nat.reduceDiv, Nat.reduceBEq, Nat.reduceLeDiff, Int.reduceToNat, Int.reduceNe, Int.reduceEq, Int.reduceLT, Int.reduceLE, Int.reduceBEq, Int.reduceBNe, ne_eq, not_true_eq_false, not_false_eq_true, decide_true, decide_false, List.length_map, h5, h6, h8, h9, h10, h11, m5, m8, m9, hq, ho, hw]
                refine againQ_mk (n - 1) (by omega) ⟨i + 1, _, _, by omega, a1, a2, a3, a4, ?_⟩
                simp -implicitDefEqProofs (disch := omega) only [go_sem, ↓reduceIte, Nat.reduceEqDiff, Nat.reduceMul, Nat.reduceAdd, Nat.reduceDiv, Nat.reduceBEq, Nat.reduceLeDiff, Int.reduceToNat, Int.reduceNe, Int.reduceEq, Int.reduceLT, Int.reduceLE, Int.reduceBEq, Int.reduceBNe, ne_eq, not_true_eq_false, not_false_eq_true, decide_true, decide_false, List.length_map, h5, h6, h8, h9, h10, h11, m5, m8, m9, hq, ho, hw, k1, k2]
                simp
            · simp -implicitDefEqProofs (disch := omega) only [go_sem, ↓reduceIte, Nat.reduceEqDiff, Nat.reduceMul, Nat.reduceAdd, Nat.reduceDiv, Nat.reduceBEq, Nat.reduceLeDiff, Int.reduceToNat, Int.reduceNe, Int.reduceEq, Int.reduceLT, Int.reduceLE, Int.reduceBEq, Int.reduceBNe, ne_eq, not_true_eq_false, not_false_eq_true, decide_true, decide_false, List.length_map, h5, h6, h8, h9, h10, h11, m5, m8, m9, hq, ho, hw]
              refine branch_mk (fun hng => ?_) (fun hng => ?_)
              · exfalso; omega
              · have k1 : nzK q (i + 1) = nzK q i := by rw [nzK, if_pos (by omega)]; rfl
                have k2 : negK q (i + 1) = negK q i := by rw [negK, if_neg (by omega)]; rfl
                simp -implicitDefEqProofs (disch := omega) only [go_sem, ↓reduceIte, Nat.reduceEqDiff, Nat.reduceMul, Nat.reduceAdd, Nat.reduceDiv, Nat.reduceBEq, Nat.reduceLeDiff, Int.reduceToNat, Int.reduceNe, Int.reduceEq, Int.reduceLT, Int.reduceLE, Int.reduceBEq, Int.reduceBNe, ne_eq, not_true_eq_false, not_false_eq_true, decide_true, decide_false, List.length_map, h5, h6, h8, h9, h10, h11, m5, m8, m9, hq, ho, hw]
                refine againQ_mk (n - 1) (by omega) ⟨i + 1, _, _, by omega, a1, a2, a3, a4, ?_⟩
                simp -implicitDefEqProofs (disch := omega) only [go_sem, ↓reduceIte, Nat.reduceEqDiff, Nat.reduceMul, Nat.reduceAdd, Nat.reduceDiv, Nat.reduceBEq, Nat.reduceLeDiff, Int.reduceToNat, Int.reduceNe, Int.reduceEq, Int.reduceLT, Int.reduceLE, Int.reduceBEq, Int.reduceBNe, ne_eq, not_true_eq_false, not_false_eq_true, decide_true, decide_false, List.length_map, h5, h6, h8, h9, h10, h11, m5, m8, m9, hq, ho, hw, k1, k2]
                simp
        · have : i = 8 := by omega
          subst this
          have go : goodF o = true := by
            refine (goodF_iff _).2 ⟨fun i hi => (inF_iff _ _ _).2 ?_, ho, ?_⟩
            · rw [hoa i (by omega)]
              have := hr i (by omega)
              split <;> omega
            · rw [sum8 o ho]; simp only [sumN]
              rw [hoa 0 (by omega), hoa 1 (by omega), hoa 2 (by omega), hoa 3 (by omega), hoa 4 (by omega), hoa 5 (by omega), hoa 6 (by omega), hoa 7 (by omega)]
              simp; omega
          have gw : goodF w = true := by
            refine (goodF_iff _).2 ⟨fun i hi => (inF_iff _ _ _).2 ?_, hw, ?_⟩
            · rw [hwa i (by omega)]
              have := hr i (by omega)
              split <;> omega
            · rw [sum8 w hw]; simp only [sumN]
              rw [hwa 0 (by omega), hwa 1 (by omega), hwa 2 (by omega), hwa 3 (by omega), hwa 4 (by omega), hwa 5 (by omega), hwa 6 (by omega), hwa 7 (by omega)]
              simp; omega
          have htw := few_two hb go gw (fun c hc => by rw [hoa c hc]; simp [hc]) (fun c hc => by
            rw [hwa c hc]
            by_cases h : c < 4
            · simp [h]
            · simp [h, hc])
          have fo := few_eq go
          have fw := few_eq gw
          have no := nzK_le o 8
          have nw := nzK_le w 8
          have eq8 : q.take 8 = q := List.take_of_length_le (by omega)
          have eo8 : o.take 8 = o := List.take_of_length_le (by omega)
          have ew8 : w.take 8 = w := List.take_of_length_le (by omega)
          unfold nzF at *
          have l1 : 8 ≤ q.length := by omega
          have l2 : 8 ≤ o.length := by omega
          have l3 : 8 ≤ w.length := by omega
          simp -implicitDefEqProofs (disch := omega) only [go_sem, ↓reduceIte, Nat.reduceEqDiff, Nat.reduceMul, Nat.reduceAdd, Nat.reduceDiv, Nat.reduceBEq, Nat.reduceLeDiff, Int.reduceToNat, Int.reduceNe, Int.reduceEq, Int.reduceLT, Int.reduceLE, Int.reduceBEq, Int.reduceBNe, ne_eq, not_true_eq_false, not_false_eq_true, decide_true, decide_false, List.length_map, h5, h6, h8, h9, h10, h11, m5, m8, m9, l1, l2, l3, eq8, eo8, ew8]
          refine callC_at (fewest_good hb) ?_
          simp -implicitDefEqProofs (disch := omega) only [go_sem, ↓reduceIte, Nat.reduceEqDiff, Nat.reduceMul, Nat.reduceAdd, Nat.reduceDiv, Nat.reduceBEq, Nat.reduceLeDiff, Int.reduceToNat, Int.reduceNe, Int.reduceEq, Int.reduceLT, Int.reduceLE, Int.reduceBEq, Int.reduceBNe, ne_eq, not_true_eq_false, not_false_eq_true, decide_true, decide_false, List.length_map, h5, h6, h8, h9, h10, h11, m5, m8, m9, l1, l2, l3, eq8, eo8, ew8]
          refine callC_at (fewest_good go) ?_
          simp -implicitDefEqProofs (disch := omega) only [go_sem, ↓reduceIte, Nat.reduceEqDiff, Nat.reduceMul, Nat.reduceAdd, Nat.reduceDiv, Nat.reduceBEq, Nat.reduceLeDiff, Int.reduceToNat, Int.reduceNe, Int.reduceEq, Int.reduceLT, Int.reduceLE, Int.reduceBEq, Int.reduceBNe, ne_eq, not_true_eq_false, not_false_eq_true, decide_true, decide_false, List.length_map, h5, h6, h8, h9, h10, h11, m5, m8, m9, l1, l2, l3, eq8, eo8, ew8]
          refine callC_at (fewest_good gw) ?_
          simp -implicitDefEqProofs (disch := omega) only [go_sem, ↓reduceIte, Nat.reduceEqDiff, Nat.reduceMul, Nat.reduceAdd, Nat.reduceDiv, Nat.reduceBEq, Nat.reduceLeDiff, Int.reduceToNat, Int.reduceNe, Int.reduceEq, Int.reduceLT, Int.reduceLE, Int.reduceBEq, Int.reduceBNe, ne_eq, not_true_eq_false, not_false_eq_true, decide_true, decide_false, List.length_map, h5, h6, h8, h9, h10, h11, m5, m8, m9, l1, l2, l3, eq8, eo8, ew8]
          refine branch_r (by omega) ?_
          simp -implicitDefEqProofs (disch := omega) only [go_sem, ↓reduceIte, Nat.reduceEqDiff, Nat.reduceMul, Nat.reduceAdd, Nat.reduceDiv, Nat.reduceBEq, Nat.reduceLeDiff, Int.reduceToNat, Int.reduceNe, Int.reduceEq, Int.reduceLT, Int.reduceLE, Int.reduceBEq, Int.reduceBNe, ne_eq, not_true_eq_false, not_false_eq_true, decide_true, decide_false, List.length_map, h5, h6, h8, h9, h10, h11, m5, m8, m9, l1, l2, l3, eq8, eo8, ew8]
          refine branch_r (by omega) ?_
          simp -implicitDefEqProofs (disch := omega) only [go_sem, ↓reduceIte, Nat.reduceEqDiff, Nat.reduceMul, Nat.reduceAdd, Nat.reduceDiv, Nat.reduceBEq, Nat.reduceLeDiff, Int.reduceToNat, Int.reduceNe, Int.reduceEq, Int.reduceLT, Int.reduceLE, Int.reduceBEq, Int.reduceBNe, ne_eq, not_true_eq_false, not_false_eq_true, decide_true, decide_false, List.length_map, h5, h6, h8, h9, h10, h11, m5, m8, m9, l1, l2, l3, eq8, eo8, ew8]
          refine branch_r (by omega) ?_
          simp -implicitDefEqProofs (disch := omega) only [go_sem, ↓reduceIte, Nat.reduceEqDiff, Nat.reduceMul, Nat.reduceAdd, Nat.reduceDiv, Nat.reduceBEq, Nat.reduceLeDiff, Int.reduceToNat, Int.reduceNe, Int.reduceEq, Int.reduceLT, Int.reduceLE, Int.reduceBEq, Int.reduceBNe, ne_eq, not_true_eq_false, not_false_eq_true, decide_true, decide_false, List.length_map, h5, h6, h8, h9, h10, h11, m5, m8, m9, l1, l2, l3, eq8, eo8, ew8]
          refine branch_mk (fun hu => ?_) (fun hu => ?_)
          · simp -implicitDefEqProofs (disch := omega) only [go_sem, ↓reduceIte, Nat.reduceEqDiff, Nat.reduceMul, Nat.reduceAdd, Nat.reduceDiv, Nat.reduceBEq, Nat.reduceLeDiff, Int.reduceToNat, Int.reduceNe, Int.reduceEq, Int.reduceLT, Int.reduceLE, Int.reduceBEq, Int.reduceBNe, ne_eq, not_true_eq_false, not_false_eq_true, decide_true, decide_false, List.length_map, h5, h6, h8, h9, h10, h11, m5, m8, m9, l1, l2, l3, eq8, eo8, ew8]
            refine branch_l (by omega) ?_
            simp -implicitDefEqProofs (disch := omega) only [go_sem, ↓reduceIte, Nat.reduceEqDiff, Nat.reduceMul, Nat.reduceAdd, Nat.reduceDiv, Nat.reduceBEq, Nat.reduceLeDiff, Int.reduceToNat, Int.reduceNe, Int.reduceEq, Int.reduceLT, Int.reduceLE, Int.reduceBEq, Int.reduceBNe, ne_eq, not_true_eq_false, not_false_eq_true, decide_true, decide_false, List.length_map, h5, h6, h8, h9, h10, h11, m5, m8, m9, l1, l2, l3, eq8, eo8, ew8]
            simp -implicitDefEqProofs (disch := omega) only [go_sem, ↓reduceIte, Nat.reduceEqDiff, Nat.reduceMul, Nat.reduceAdd, Nat.reduceDiv, Nat.reduceBEq, Nat.reduceLeDiff, Int.reduceToNat, Int.reduceNe, Int.reduceEq, Int.reduceLT, Int.reduceLE, Int.reduceBEq, Int.reduceBNe, ne_eq, not_true_eq_false, not_false_eq_true, decide_true, decide_false, List.length_map, Try.results7]
          · have hlt : fewN q < nzK q 8 := by omega
            simp -implicitDefEqProofs (disch := omega) only [go_sem, ↓reduceIte, Nat.reduceEqDiff, Nat.reduceMul, Nat.reduceAdd, Nat.reduceDiv, Nat.reduceBEq, Nat.reduceLeDiff, Int.reduceToNat, Int.reduceNe, Int.reduceEq, Int.reduceLT, Int.reduceLE, Int.reduceBEq, Int.reduceBNe, ne_eq, not_true_eq_false, not_false_eq_true, decide_true, decide_false, List.length_map, h5, h6, h8, h9, h10, h11, m5, m8, m9, l1, l2, l3, eq8, eo8, ew8]
            simp -implicitDefEqProofs (disch := omega) only [go_sem, ↓reduceIte, Nat.reduceEqDiff, Nat.reduceMul, Nat.reduceAdd, Nat.reduceDiv, Nat.reduceBEq, Nat.reduceLeDiff, Int.reduceToNat, Int.reduceNe, Int.reduceEq, Int.reduceLT, Int.reduceLE, Int.reduceBEq, Int.reduceBNe, ne_eq, not_true_eq_false, not_false_eq_true, decide_true, decide_false, List.length_map, Try.results7, hlt]
            simpa [B] using hlt
end Go.Proofs.Ytjbgckjcbmmobaa

/- Chapter 39, NettingGroups: settling two groups of carriers apart needs no fewer payments. -/
set_option maxRecDepth 100000
namespace Go.Proofs.Ytjbgckjcbmmobaa
open Go.Vai Go Go.Proofs

theorem nettingGroups_lifted (os : Os) (started : os.Started) (H : Type) (enc : TypeId × Value → H) :
    ReturnsInHanded {} Try.checked os 7 .any (Rows.nettingGroupsSpec.pre6 enc Try.prog Try.f7 [] false) (Rows.nettingGroupsSpec.post enc Try.prog Try.f7 false true false false) :=
  lifted (C := Try.checked) (tb := 4) (ps := [OS, OS]) own started (by kernel_rfl) Try.func7
    (ChangeSpec.witness6 (enc := enc) (C := Try.checked) false ⟨#[], #[.slice none 0 0, .slice none 0 0], []⟩ 8 (by kernel_rfl) (by kernel_rfl) (by kernel_rfl) (by kernel_rfl))
    laidOut (by kernel_rfl) (by kernel_rfl) (by kernel_rfl) rfl (len_2 fun _ _ => rfl)
    (fun w => ⟨o_ints, o_ints, trivial⟩)
    (allP_2 fun a0 a1 h0 h1 => by
      obtain ⟨x0, hx0, hr0, rfl⟩ := h0
      obtain ⟨x1, hx1, hr1, rfl⟩ := h1
      exact groups_ev x0 x1 hx0 hx1 hr0 hr1 )
theorem nettingGroups_holds : Rows.NettingGroupsSaid :=
  OpenClaim.holds_of_wide 7 Try.f7 rfl rfl rfl rfl rfl rfl rfl ⟨rfl, rfl, rfl, rfl, rfl⟩ rfl rfl rfl rfl rfl (by kernel_rfl) Try.func7 (by kernel_rfl)
    (of_decide_eq_true (by kernel_rfl)) (by unfold Func.isWrapper; first | (rw [if_pos (by decide +kernel)]; kernel_rfl) | (rw [if_neg (by decide +kernel)]; exact ⟨rfl, rfl⟩))
    (fun os started H enc _ => nettingGroups_lifted os started H enc)
#print axioms nettingGroups_holds
end Go.Proofs.Ytjbgckjcbmmobaa

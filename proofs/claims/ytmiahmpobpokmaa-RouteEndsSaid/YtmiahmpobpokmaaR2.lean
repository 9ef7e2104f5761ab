/- The contracts of chapter 24: which are valid. -/
import Derived.Test.YtmiahmpobpokmaaR1
set_option maxRecDepth 100000
set_option linter.unusedSimpArgs false
namespace Go.Proofs.Ytmiahmpobpokmaa
open Go.Vai Go Go.Proofs

/-- The row of the least versions, laid in a block. -/
def LBlk (l : List Int) : Blk := ⟨55, 8, [.agg (l.map I)]⟩
/-- Half a version: the first 'i' of the two. -/
def partF (h : List Int) (c a : Int) (v i : Nat) : Int := if gd h v ≠ gd h (v - 1) ∧ ((1 ≤ i ∧ gd h (v - 1) = c) ∨ (2 ≤ i ∧ gd h v = c)) then max a v else a

theorem valid_ev (h k : List Int) (lag : Int) (hh : h.length ≤ 9223372036854775807) (hk : k.length ≤ 9223372036854775807) (hl : R64 lag) : Ev Try.prog 14 [SL h, SL k, I lag] (B (validF h k lag)) := by
  obtain ⟨hl1, hl2⟩ := hl
  refine ev_of Try.func14 rfl (by kernel_rfl) mo (Nat.le_of_ble_eq_true rfl) ?_
  simp -implicitDefEqProofs (disch := omega) only [go_sem, ↓reduceIte, Nat.reduceEqDiff, Nat.reduceMul, Nat.reduceAdd, Nat.reduceDiv, Nat.reduceBEq, Nat.reduceLeDiff, Int.reduceToNat, Int.reduceNe, Int.reduceEq, Int.reduceLT, Int.reduceLE, Int.reduceBEq, Int.reduceBNe, ne_eq, not_true_eq_false, not_false_eq_true, decide_true, decide_false, List.length_map, Try.ntmps14]
  refine callC_at (areHolders_ev h hh) ?_
  simp -implicitDefEqProofs (disch := omega) only [go_sem, ↓reduceIte, Nat.reduceEqDiff, Nat.reduceMul, Nat.reduceAdd, Nat.reduceDiv, Nat.reduceBEq, Nat.reduceLeDiff, Int.reduceToNat, Int.reduceNe, Int.reduceEq, Int.reduceLT, Int.reduceLE, Int.reduceBEq, Int.reduceBNe, ne_eq, not_true_eq_false, not_false_eq_true, decide_true, decide_false, List.length_map]
  repeat' (first | ((with_reducible refine branch_mk (fun hb => ?_) (fun hb => ?_)) <;> simp -implicitDefEqProofs (disch := omega) only [go_sem, ↓reduceIte, Nat.reduceEqDiff, Nat.reduceMul, Nat.reduceAdd, Nat.reduceDiv, Nat.reduceBEq, Nat.reduceLeDiff, Int.reduceToNat, Int.reduceNe, Int.reduceEq, Int.reduceLT, Int.reduceLE, Int.reduceBEq, Int.reduceBNe, ne_eq, not_true_eq_false, not_false_eq_true, decide_true, decide_false, List.length_map, Try.results14, hb]) | ((with_reducible refine callC_id ?_); refine callC_at (isWithin_ev _ _ _) ?_; try simp -implicitDefEqProofs (disch := omega) only [go_sem, ↓reduceIte, Nat.reduceEqDiff, Nat.reduceMul, Nat.reduceAdd, Nat.reduceDiv, Nat.reduceBEq, Nat.reduceLeDiff, Int.reduceToNat, Int.reduceNe, Int.reduceEq, Int.reduceLT, Int.reduceLE, Int.reduceBEq, Int.reduceBNe, ne_eq, not_true_eq_false, not_false_eq_true, decide_true, decide_false, List.length_map, Try.results14]))
  · simp [validF, hb]
  · simp [validF]; intro _ e; omega
  · simp [validF, hb]
  · rename_i hb1 hb2
    have hk8 : k.length = 8 := by omega
    have hho : holdersF h = true := by simpa using hb1
    have hlg : inF lag 0 10 = true := by simpa using hb
    have hlen : 1 ≤ h.length ∧ h.length ≤ 30 := by
      simp only [holdersF, Bool.and_eq_true, inF_iff] at hho; omega
    have hlag := (inF_iff _ _ _).1 hlg
    clear hb hb1 hb2 hlg hl1 hl2 hk hh
    have hin : ∀ i, i < h.length → -1 ≤ gd h i ∧ gd h i ≤ 7 := fun i hi => by
      have := hho
      simp only [holdersF, Bool.and_eq_true] at this
      exact (inF_iff _ _ _).1 ((all_iff h _).1 this.2 i hi)
    refine loopC_mk (fun n E σ => ∃ c : Nat, c + n = 8 ∧ E 0 = SL h ∧ E 1 = SL k ∧ E 2 = I lag ∧ E 7 = I (h.length - 1) ∧ E 8 = .ptr 31457408 8 0 0 ∧ E 31 = I c ∧
      ∃ l, σ 31457408 = some (LBlk l) ∧ l.length = 8 ∧ ∀ i, i < c → gd l i = leastF h lag i 0) 8 ⟨0, by omega, ?_⟩ ?_
    · simp -implicitDefEqProofs (disch := omega) only [go_sem, ↓reduceIte, Nat.reduceEqDiff, Nat.reduceMul, Nat.reduceAdd, Nat.reduceDiv, Nat.reduceBEq, Nat.reduceLeDiff, Int.reduceToNat, Int.reduceNe, Int.reduceEq, Int.reduceLT, Int.reduceLE, Int.reduceBEq, Int.reduceBNe, ne_eq, not_true_eq_false, not_false_eq_true, decide_true, decide_false, List.length_map]
      refine ⟨by simp, List.replicate 8 0, rfl, rfl, fun i hi => by omega⟩
    · rintro n E σ ⟨c, hc, h0, h1, h2, h7, h8, h31, l, hs, hll, hl⟩
      simp -implicitDefEqProofs (disch := omega) only [go_sem, ↓reduceIte, Nat.reduceEqDiff, Nat.reduceMul, Nat.reduceAdd, Nat.reduceDiv, Nat.reduceBEq, Nat.reduceLeDiff, Int.reduceToNat, Int.reduceNe, Int.reduceEq, Int.reduceLT, Int.reduceLE, Int.reduceBEq, Int.reduceBNe, ne_eq, not_true_eq_false, not_false_eq_true, decide_true, decide_false, List.length_map, h0, h1, h2, h7, h8, h31]
      refine branch_mk (fun hd => ?_) (fun hd => ?_)
      · simp -implicitDefEqProofs (disch := omega) only [go_sem, ↓reduceIte, Nat.reduceEqDiff, Nat.reduceMul, Nat.reduceAdd, Nat.reduceDiv, Nat.reduceBEq, Nat.reduceLeDiff, Int.reduceToNat, Int.reduceNe, Int.reduceEq, Int.reduceLT, Int.reduceLE, Int.reduceBEq, Int.reduceBNe, ne_eq, not_true_eq_false, not_false_eq_true, decide_true, decide_false, List.length_map, h0, h1, h2, h7, h8, h31, hs, LBlk]
        refine againQ_mk (n - 1) (by omega) ⟨c + 1, by omega, ?_⟩
        simp -implicitDefEqProofs (disch := omega) only [go_sem, ↓reduceIte, Nat.reduceEqDiff, Nat.reduceMul, Nat.reduceAdd, Nat.reduceDiv, Nat.reduceBEq, Nat.reduceLeDiff, Int.reduceToNat, Int.reduceNe, Int.reduceEq, Int.reduceLT, Int.reduceLE, Int.reduceBEq, Int.reduceBNe, ne_eq, not_true_eq_false, not_false_eq_true, decide_true, decide_false, List.length_map, h0, h1, h2, h7, h8, h31]
        refine ⟨by simp, _, rfl, by simpa using hll, fun i hi => ?_⟩
        rw [gd_set _ _ _ _ (by omega)]
        split
        · simp only [leastF]
        · rw [hl i (by omega)]
      · simp -implicitDefEqProofs (disch := omega) only [go_sem, ↓reduceIte, Nat.reduceEqDiff, Nat.reduceMul, Nat.reduceAdd, Nat.reduceDiv, Nat.reduceBEq, Nat.reduceLeDiff, Int.reduceToNat, Int.reduceNe, Int.reduceEq, Int.reduceLT, Int.reduceLE, Int.reduceBEq, Int.reduceBNe, ne_eq, not_true_eq_false, not_false_eq_true, decide_true, decide_false, List.length_map, h0, h1, h2, h7, h8, h31, hs]
        clear h31
        have hc8 : c = 8 := by omega
        subst hc8
        refine loopC_mk (fun n E σ => ∃ v : Nat, 1 ≤ v ∧ v + n = h.length ∧ E 0 = SL h ∧ E 1 = SL k ∧ E 2 = I lag ∧ E 7 = I (h.length - 1) ∧ E 8 = .ptr 31457408 8 0 0 ∧ E 10 = I v ∧
          ∃ l, σ 31457408 = some (LBlk l) ∧ l.length = 8 ∧ ∀ i, i < 8 → gd l i = leastF h lag i (v - 1)) (h.length - 1) ⟨1, by omega, by omega, ?_⟩ ?_
        · simp -implicitDefEqProofs (disch := omega) only [go_sem, ↓reduceIte, Nat.reduceEqDiff, Nat.reduceMul, Nat.reduceAdd, Nat.reduceDiv, Nat.reduceBEq, Nat.reduceLeDiff, Int.reduceToNat, Int.reduceNe, Int.reduceEq, Int.reduceLT, Int.reduceLE, Int.reduceBEq, Int.reduceBNe, ne_eq, not_true_eq_false, not_false_eq_true, decide_true, decide_false, List.length_map, h0, h1, h2, h7, h8]
          refine ⟨by simp, l, hs, hll, hl⟩
        · clear h0 h1 h2 h7 h8 hs hll hl l n σ E hd hc
          rintro n E σ ⟨v, hv1, hv, h0, h1, h2, h7, h8, h10, l, hs, hll, hl⟩
          simp -implicitDefEqProofs (disch := omega) only [go_sem, ↓reduceIte, Nat.reduceEqDiff, Nat.reduceMul, Nat.reduceAdd, Nat.reduceDiv, Nat.reduceBEq, Nat.reduceLeDiff, Int.reduceToNat, Int.reduceNe, Int.reduceEq, Int.reduceLT, Int.reduceLE, Int.reduceBEq, Int.reduceBNe, ne_eq, not_true_eq_false, not_false_eq_true, decide_true, decide_false, List.length_map, h0, h1, h2, h7, h8, h10]
          refine branch_mk (fun hd => ?_) (fun hd => ?_)
          · simp -implicitDefEqProofs (disch := omega) only [go_sem, ↓reduceIte, Nat.reduceEqDiff, Nat.reduceMul, Nat.reduceAdd, Nat.reduceDiv, Nat.reduceBEq, Nat.reduceLeDiff, Int.reduceToNat, Int.reduceNe, Int.reduceEq, Int.reduceLT, Int.reduceLE, Int.reduceBEq, Int.reduceBNe, ne_eq, not_true_eq_false, not_false_eq_true, decide_true, decide_false, List.length_map, h0, h1, h2, h7, h8, h10]
            have ev1 : ((v : Int) - 1).toNat = v - 1 := by omega
            have ev2 : ((v : Int) + 1).toNat - (v - 1) = 2 := by omega
            obtain ⟨m, hm, hm2, hm0, hm1⟩ : ∃ m : List Int, (h.drop (v - 1)).take 2 = m ∧ m.length = 2 ∧ gd m 0 = gd h (v - 1) ∧ gd m 1 = gd h v := by
              refine ⟨_, rfl, by simp; omega, ?_, ?_⟩
              · rw [gd_take _ _ _ (by omega), gd_drop]; rfl
              · rw [gd_take _ _ _ (by omega), gd_drop, show v - 1 + 1 = v from by omega]
            refine loopC_mk (fun n E σ => ∃ i : Nat, i + n = 2 ∧ E 0 = SL h ∧ E 1 = SL k ∧ E 2 = I lag ∧ E 7 = I (h.length - 1) ∧ E 8 = .ptr 31457408 8 0 0 ∧ E 10 = I v ∧ E 51 = SL m ∧ E 52 = I 2 ∧ E 53 = I i ∧
              ∃ l, σ 31457408 = some (LBlk l) ∧ l.length = 8 ∧ ∀ c, c < 8 → gd l c = partF h c (leastF h lag c (v - 1)) v i) 2 ⟨0, by omega, ?_⟩ ?_
            · simp -implicitDefEqProofs (disch := omega) only [go_sem, ↓reduceIte, Nat.reduceEqDiff, Nat.reduceMul, Nat.reduceAdd, Nat.reduceDiv, Nat.reduceBEq, Nat.reduceLeDiff, Int.reduceToNat, Int.reduceNe, Int.reduceEq, Int.reduceLT, Int.reduceLE, Int.reduceBEq, Int.reduceBNe, ne_eq, not_true_eq_false, not_false_eq_true, decide_true, decide_false, List.length_map, h0, h1, h2, h7, h8, h10, ev2, ev1, hm, hm2]
              refine ⟨by simp, by simp, l, hs, hll, fun c hc => ?_⟩
              rw [hl c hc]; simp [partF]
            · have hv0 := hin (v - 1) (by omega)
              have hv1 := hin v (by omega)
              clear h0 h1 h2 h7 h8 h10 hs hll hl l σ E ev2
              rintro n' E σ ⟨i, hi, h0, h1, h2, h7, h8, h10, h51, h52, h53, l, hs, hll, hl⟩
              simp -implicitDefEqProofs (disch := omega) only [go_sem, ↓reduceIte, Nat.reduceEqDiff, Nat.reduceMul, Nat.reduceAdd, Nat.reduceDiv, Nat.reduceBEq, Nat.reduceLeDiff, Int.reduceToNat, Int.reduceNe, Int.reduceEq, Int.reduceLT, Int.reduceLE, Int.reduceBEq, Int.reduceBNe, ne_eq, not_true_eq_false, not_false_eq_true, decide_true, decide_false, List.length_map, h0, h1, h2, h7, h8, h10, h51, h52, h53]
              refine branch_mk (fun hd => ?_) (fun hd => ?_)
              · have hmi : gd m i = if i = 0 then gd h (v - 1) else gd h v := by
                  split
                  · rename_i e; subst e; exact hm0
                  · rw [show i = 1 from by omega]; exact hm1
                have hmr : -1 ≤ gd m i ∧ gd m i ≤ 7 := by rw [hmi]; split <;> omega
                have same : ¬ (0 ≤ gd m i ∧ gd h v ≠ gd h (v - 1)) → ∀ c : Nat, c < 8 → partF h c (leastF h lag c (v - 1)) v i = partF h c (leastF h lag c (v - 1)) v (i + 1) := by
                  intro hn c hc
                  unfold partF
                  have : gd h v ≠ gd h (v - 1) → ¬ (gd m i = c) := fun h1 h2 => hn ⟨by omega, h1⟩
                  rw [hmi] at this
                  congr 1
                  refine propext ⟨fun ⟨h1, h2⟩ => ⟨h1, by omega⟩, fun ⟨h1, h2⟩ => ⟨h1, ?_⟩⟩
                  have := this h1
                  split at this <;> omega
                simp -implicitDefEqProofs (disch := omega) only [go_sem, ↓reduceIte, Nat.reduceEqDiff, Nat.reduceMul, Nat.reduceAdd, Nat.reduceDiv, Nat.reduceBEq, Nat.reduceLeDiff, Int.reduceToNat, Int.reduceNe, Int.reduceEq, Int.reduceLT, Int.reduceLE, Int.reduceBEq, Int.reduceBNe, ne_eq, not_true_eq_false, not_false_eq_true, decide_true, decide_false, List.length_map, h0, h1, h2, h7, h8, h10, h51, h52, h53]
                repeat' (first | ((with_reducible refine branch_mk (fun hb => ?_) (fun hb => ?_)) <;> simp -implicitDefEqProofs (disch := omega) only [go_sem, ↓reduceIte, Nat.reduceEqDiff, Nat.reduceMul, Nat.reduceAdd, Nat.reduceDiv, Nat.reduceBEq, Nat.reduceLeDiff, Int.reduceToNat, Int.reduceNe, Int.reduceEq, Int.reduceLT, Int.reduceLE, Int.reduceBEq, Int.reduceBNe, ne_eq, not_true_eq_false, not_false_eq_true, decide_true, decide_false, List.length_map, h0, h1, h2, h7, h8, h10, h51, h52, h53, hs, LBlk, ev1, hb]))
                all_goals (refine againQ_mk (n' - 1) (by omega) ⟨i + 1, by omega, ?_⟩; simp -implicitDefEqProofs (disch := omega) only [go_sem, ↓reduceIte, Nat.reduceEqDiff, Nat.reduceMul, Nat.reduceAdd, Nat.reduceDiv, Nat.reduceBEq, Nat.reduceLeDiff, Int.reduceToNat, Int.reduceNe, Int.reduceEq, Int.reduceLT, Int.reduceLE, Int.reduceBEq, Int.reduceBNe, ne_eq, not_true_eq_false, not_false_eq_true, decide_true, decide_false, List.length_map, h0, h1, h2, h7, h8, h10, h51, h52, h53, hs])
                · rename_i hb0
                  refine ⟨by simp, _, rfl, by simpa using hll, fun c hc => ?_⟩
                  rw [gd_set _ _ _ _ (by omega), hl _ (by omega), hl _ hc]
                  by_cases e : c = (gd m i).toNat
                  · rw [if_pos e, ← e]
                    have e' : gd m i = c := by omega
                    rw [hmi] at e'
                    have h1 : gd h v ≠ gd h (v - 1) := hb
                    have hA : partF h c (leastF h lag c (v - 1)) v i = leastF h lag c (v - 1) := by
                      unfold partF; rw [if_neg]; rintro ⟨_, hx⟩
                      split at e' <;> omega
                    have hB : partF h c (leastF h lag c (v - 1)) v (i + 1) = max (leastF h lag c (v - 1)) v := by
                      unfold partF; rw [if_pos]; refine ⟨h1, ?_⟩
                      split at e'
                      · exact .inl ⟨by omega, e'⟩
                      · exact .inr ⟨by omega, e'⟩
                    rw [hA, hB]
                  · rw [if_neg e]
                    have e' : ¬ gd m i = c := by omega
                    rw [hmi] at e'
                    unfold partF
                    congr 1
                    refine propext ⟨fun ⟨h1, h2⟩ => ⟨h1, by omega⟩, fun ⟨h1, h2⟩ => ⟨h1, ?_⟩⟩
                    split at e' <;> omega
                · rename_i hb0
                  exact ⟨by simp, l, rfl, hll, fun c hc => by rw [hl c hc]; exact same (by omega) c hc⟩
                · exact ⟨by simp, l, rfl, hll, fun c hc => by rw [hl c hc]; exact same (by omega) c hc⟩
              · simp -implicitDefEqProofs (disch := omega) only [go_sem, ↓reduceIte, Nat.reduceEqDiff, Nat.reduceMul, Nat.reduceAdd, Nat.reduceDiv, Nat.reduceBEq, Nat.reduceLeDiff, Int.reduceToNat, Int.reduceNe, Int.reduceEq, Int.reduceLT, Int.reduceLE, Int.reduceBEq, Int.reduceBNe, ne_eq, not_true_eq_false, not_false_eq_true, decide_true, decide_false, List.length_map, h0, h1, h2, h7, h8, h10]
                refine againQ_mk (n - 1) (by omega) ⟨v + 1, by omega, by omega, ?_⟩
                simp -implicitDefEqProofs (disch := omega) only [go_sem, ↓reduceIte, Nat.reduceEqDiff, Nat.reduceMul, Nat.reduceAdd, Nat.reduceDiv, Nat.reduceBEq, Nat.reduceLeDiff, Int.reduceToNat, Int.reduceNe, Int.reduceEq, Int.reduceLT, Int.reduceLE, Int.reduceBEq, Int.reduceBNe, ne_eq, not_true_eq_false, not_false_eq_true, decide_true, decide_false, List.length_map, h0, h1, h2, h7, h8, h10]
                refine ⟨by simp, l, hs, hll, fun c hc => ?_⟩
                rw [hl c hc, show v + 1 - 1 = (v - 1) + 1 from by omega]
                rw [leastF.eq_2, show v - 1 + 1 = v from by omega]
                unfold partF turnsF
                congr 1
                refine propext ⟨fun ⟨a, b⟩ => ⟨a, by omega⟩, fun ⟨a, b⟩ => ⟨a, by omega⟩⟩
          · simp -implicitDefEqProofs (disch := omega) only [go_sem, ↓reduceIte, Nat.reduceEqDiff, Nat.reduceMul, Nat.reduceAdd, Nat.reduceDiv, Nat.reduceBEq, Nat.reduceLeDiff, Int.reduceToNat, Int.reduceNe, Int.reduceEq, Int.reduceLT, Int.reduceLE, Int.reduceBEq, Int.reduceBNe, ne_eq, not_true_eq_false, not_false_eq_true, decide_true, decide_false, List.length_map, h0, h1, h2, h7, h8, h10]
            clear h10
            have hl' : ∀ i : Nat, i < 8 → gd l i = leastF h lag i (h.length - 1) := fun i hi => by rw [hl i hi]; congr 1; omega
            clear hl hv hv1 hd
            refine loopC_mk (fun n E σ => ∃ c : Nat, c + n = 8 ∧ E 0 = SL h ∧ E 1 = SL k ∧ E 2 = I lag ∧ E 7 = I (h.length - 1) ∧ E 8 = .ptr 31457408 8 0 0 ∧ E 79 = SL k ∧ E 80 = I 8 ∧ E 81 = I c ∧ σ 31457408 = some (LBlk l) ∧
              ∀ i : Nat, i < c → (decide (gd k i = -1) || inF (gd k i) (leastF h lag i (h.length - 1)) ((h.length : Int) - 1)) = true) 8 ⟨0, by omega, ?_⟩ ?_
            · simp -implicitDefEqProofs (disch := omega) only [go_sem, ↓reduceIte, Nat.reduceEqDiff, Nat.reduceMul, Nat.reduceAdd, Nat.reduceDiv, Nat.reduceBEq, Nat.reduceLeDiff, Int.reduceToNat, Int.reduceNe, Int.reduceEq, Int.reduceLT, Int.reduceLE, Int.reduceBEq, Int.reduceBNe, ne_eq, not_true_eq_false, not_false_eq_true, decide_true, decide_false, List.length_map, h0, h1, h2, h7, h8]
              exact ⟨by simp [hk8], by simp, hs, fun i hi => by omega⟩
            · clear h0 h1 h2 h7 h8 hs σ E
              rintro n' E σ ⟨c, hc, h0, h1, h2, h7, h8, h79, h80, h81, hs, hall⟩
              simp -implicitDefEqProofs (disch := omega) only [go_sem, ↓reduceIte, Nat.reduceEqDiff, Nat.reduceMul, Nat.reduceAdd, Nat.reduceDiv, Nat.reduceBEq, Nat.reduceLeDiff, Int.reduceToNat, Int.reduceNe, Int.reduceEq, Int.reduceLT, Int.reduceLE, Int.reduceBEq, Int.reduceBNe, ne_eq, not_true_eq_false, not_false_eq_true, decide_true, decide_false, List.length_map, h0, h1, h2, h7, h8, h79, h80, h81]
              refine branch_mk (fun hd => ?_) (fun hd => ?_)
              · simp -implicitDefEqProofs (disch := omega) only [go_sem, ↓reduceIte, Nat.reduceEqDiff, Nat.reduceMul, Nat.reduceAdd, Nat.reduceDiv, Nat.reduceBEq, Nat.reduceLeDiff, Int.reduceToNat, Int.reduceNe, Int.reduceEq, Int.reduceLT, Int.reduceLE, Int.reduceBEq, Int.reduceBNe, ne_eq, not_true_eq_false, not_false_eq_true, decide_true, decide_false, List.length_map, h0, h1, h2, h7, h8, h79, h80, h81]
                have no : ¬ ((decide (gd k c = -1) || inF (gd k c) (leastF h lag c (h.length - 1)) ((h.length : Int) - 1)) = true) → validF h k lag = false := fun hn => by
                  cases hv : validF h k lag with
                  | false => rfl
                  | true =>
                    simp only [validF, Bool.and_eq_true] at hv
                    exact absurd (List.all_eq_true.1 hv.2 c (List.mem_range.2 (by omega))) hn
                have yes : (decide (gd k c = -1) || inF (gd k c) (leastF h lag c (h.length - 1)) ((h.length : Int) - 1)) = true → ∀ i : Nat, i < c + 1 → gd k i = -1 ∨ inF (gd k i) (leastF h lag i (h.length - 1)) ((h.length : Int) - 1) = true := fun hy i hi => by
                  by_cases e : i = c
                  · subst e; simpa using hy
                  · simpa using hall i (by omega)
                repeat' (first | ((with_reducible refine branch_mk (fun hb => ?_) (fun hb => ?_)) <;> simp -implicitDefEqProofs (disch := omega) only [go_sem, ↓reduceIte, Nat.reduceEqDiff, Nat.reduceMul, Nat.reduceAdd, Nat.reduceDiv, Nat.reduceBEq, Nat.reduceLeDiff, Int.reduceToNat, Int.reduceNe, Int.reduceEq, Int.reduceLT, Int.reduceLE, Int.reduceBEq, Int.reduceBNe, ne_eq, not_true_eq_false, not_false_eq_true, decide_true, decide_false, List.length_map, h0, h1, h2, h7, h8, h79, h80, h81, hs, LBlk, Try.results14, hb]) | ((with_reducible refine callC_id ?_); refine callC_at (isWithin_ev _ _ _) ?_; try simp -implicitDefEqProofs (disch := omega) only [go_sem, ↓reduceIte, Nat.reduceEqDiff, Nat.reduceMul, Nat.reduceAdd, Nat.reduceDiv, Nat.reduceBEq, Nat.reduceLeDiff, Int.reduceToNat, Int.reduceNe, Int.reduceEq, Int.reduceLT, Int.reduceLE, Int.reduceBEq, Int.reduceBNe, ne_eq, not_true_eq_false, not_false_eq_true, decide_true, decide_false, List.length_map, h0, h1, h2, h7, h8, h79, h80, h81, hs, LBlk, Try.results14]))
                · rename_i hb0
                  rw [hl' c (by omega)] at hb
                  rw [no (by simp [hb, hb0])]
                · rename_i hb0
                  rw [hl' c (by omega)] at hb
                  refine againQ_mk (n' - 1) (by omega) ⟨c + 1, by omega, ?_⟩
                  simp -implicitDefEqProofs (disch := omega) only [go_sem, ↓reduceIte, Nat.reduceEqDiff, Nat.reduceMul, Nat.reduceAdd, Nat.reduceDiv, Nat.reduceBEq, Nat.reduceLeDiff, Int.reduceToNat, Int.reduceNe, Int.reduceEq, Int.reduceLT, Int.reduceLE, Int.reduceBEq, Int.reduceBNe, ne_eq, not_true_eq_false, not_false_eq_true, decide_true, decide_false, List.length_map, h0, h1, h2, h7, h8, h79, h80, h81, hs, LBlk]
                  exact ⟨by simp, yes (by simp at hb; simp [hb])⟩
                · refine againQ_mk (n' - 1) (by omega) ⟨c + 1, by omega, ?_⟩
                  simp -implicitDefEqProofs (disch := omega) only [go_sem, ↓reduceIte, Nat.reduceEqDiff, Nat.reduceMul, Nat.reduceAdd, Nat.reduceDiv, Nat.reduceBEq, Nat.reduceLeDiff, Int.reduceToNat, Int.reduceNe, Int.reduceEq, Int.reduceLT, Int.reduceLE, Int.reduceBEq, Int.reduceBNe, ne_eq, not_true_eq_false, not_false_eq_true, decide_true, decide_false, List.length_map, h0, h1, h2, h7, h8, h79, h80, h81, hs, LBlk]
                  exact ⟨by simp, yes (by simp at hb; simp [hb])⟩
              · simp -implicitDefEqProofs (disch := omega) only [go_sem, ↓reduceIte, Nat.reduceEqDiff, Nat.reduceMul, Nat.reduceAdd, Nat.reduceDiv, Nat.reduceBEq, Nat.reduceLeDiff, Int.reduceToNat, Int.reduceNe, Int.reduceEq, Int.reduceLT, Int.reduceLE, Int.reduceBEq, Int.reduceBNe, ne_eq, not_true_eq_false, not_false_eq_true, decide_true, decide_false, List.length_map, h0, h1, h2, h7, h8, Try.results14]
                have : validF h k lag = true := by
                  simp only [validF, Bool.and_eq_true]
                  refine ⟨⟨⟨hho, by simp [hk8]⟩, (inF_iff _ _ _).2 hlag⟩, List.all_eq_true.2 fun i hi => hall i ?_⟩
                  have := List.mem_range.1 hi; omega
                rw [this]

end Go.Proofs.Ytmiahmpobpokmaa

/- Chapter 24 in plain words: learning, blaming. -/
import Derived.Test.YtmiahmpobpokmaaRP1
namespace Go.Proofs.Ytmiahmpobpokmaa
open Go.Vai Go

theorem holdersF_pos {h : List Int} (hh : holdersF h = true) : 1 ≤ h.length ∧ h.length ≤ 30 := by
  simp only [holdersF, Bool.and_eq_true, inF_iff] at hh; omega
theorem validF_of {h k : List Int} {lag : Int} (h1 : holdersF h = true) (h2 : k.length = 8) (h3 : 0 ≤ lag ∧ lag ≤ 10)
    (h4 : ∀ c : Nat, c < 8 → gd k c = -1 ∨ (0 ≤ gd k c ∧ (h.length : Int) - 1 - lag ≤ gd k c ∧ gd k c ≤ (h.length : Int) - 1 ∧ ∀ i : Nat, 1 ≤ i → i < h.length → turnsF h c i → (i : Int) ≤ gd k c)) : validF h k lag = true := by
  simp only [validF, Bool.and_eq_true]
  refine ⟨⟨⟨h1, by simp [h2]⟩, (inF_iff _ _ _).2 h3⟩, List.all_eq_true.2 fun c hc => ?_⟩
  have hl := holdersF_pos h1
  rcases h4 c (List.mem_range.1 hc) with h5 | ⟨h5, h6, h7, h8⟩
  · simp [h5]
  · rw [Bool.or_eq_true]
    exact .inr ((inF_iff _ _ _).2 ⟨(leastF_le h lag c _ _).2 ⟨h5, h6, fun i h9 h10 h11 => h8 i h9 (by omega) h11⟩, h7⟩)
theorem valid_all {h k : List Int} {lag : Int} (hv : validF h k lag = true) (c : Nat) (hc : c < 8) :
    gd k c = -1 ∨ (0 ≤ gd k c ∧ (h.length : Int) - 1 - lag ≤ gd k c ∧ gd k c ≤ (h.length : Int) - 1 ∧ ∀ i : Nat, 1 ≤ i → i < h.length → turnsF h c i → (i : Int) ≤ gd k c) := by
  rcases valid_known hv c hc with h1 | ⟨h1, h2⟩
  · exact .inl h1
  · have := (leastF_le h lag c (gd k c) (h.length - 1)).1 h1
    exact .inr ⟨this.1, this.2.1, h2, fun i h3 h4 h5 => this.2.2 i h3 (by omega) h5⟩

theorem learnN_at (w : Int) (l : List (Int × Int)) (k : List Int) (hl : ∀ x ∈ l, x.1.toNat < k.length) : ∀ i, i ≤ l.length → ∀ j, gd (learnN w l k i) j = if ∃ a, a < i ∧ (gd l a).1.toNat = j then max (gd k j) w else gd k j
  | 0, _, j => by simp [learnN]
  | i + 1, hi, j => by
    have ih := learnN_at w l k hl i (by omega)
    have hx := hl _ (gd_mem l i (by omega))
    rw [learnN, gd_set _ _ _ _ (by rw [learnN_length]; exact hx)]
    by_cases e : j = (gd l i).1.toNat
    · have hex : ∃ a, a < i + 1 ∧ (gd l a).1.toNat = j := ⟨i, by omega, e.symm⟩
      rw [if_pos e, ← e, ih j, if_pos hex]
      split <;> omega
    · rw [if_neg e, ih j]
      congr 1
      refine propext ⟨fun ⟨a, h1, h2⟩ => ⟨a, by omega, h2⟩, fun ⟨a, h1, h2⟩ => ⟨a, ?_, h2⟩⟩
      by_cases e2 : a = i
      · subst e2; exact absurd h2.symm e
      · omega

section
variable {h k : List Int} {lag c : Int}
/-- The version of the last hop. -/
def lastW (h k : List Int) (c : Int) : Int := (gd (pathF h k c).1 ((pathF h k c).1.length - 1)).2
theorem learn_at (hcan : canF h k lag c = true) (j : Nat) : gd (learnF h k c) j = if ∃ a, a < (pathF h k c).1.length ∧ (gd (pathF h k c).1 a).1.toNat = j then max (gd k j) (lastW h k c) else gd k j := by
  have hv := valid_holders (can_at hcan).1
  exact learnN_at _ _ _ (fun x hx => by have := path_in hcan x hx; omega) _ (Nat.le_refl _) j
theorem learn_length (hcan : canF h k lag c = true) : (learnF h k c).length = 8 := by
  unfold learnF; rw [learnN_length]; exact (valid_holders (can_at hcan).1).2.1
theorem lastW_in (hcan : canF h k lag c = true) : 0 ≤ lastW h k c ∧ lastW h k c ≤ (h.length : Int) - 1 ∧ gd k c.toNat ≤ lastW h k c ∧ (h.length : Int) - 1 - lag ≤ lastW h k c := by
  have hp := path_ok hcan
  have hpos := hp.pos
  have h1 := path_in hcan _ (gd_mem (pathF h k c).1 ((pathF h k c).1.length - 1) (by omega))
  have h2 := hp.asc' 0 ((pathF h k c).1.length - 1) (by omega)
  have h3 := path_least hcan
  rw [hp.zero, Nat.zero_add] at h2; simp only at h2
  unfold lastW; omega
theorem learn_more (hcan : canF h k lag c = true) (j : Nat) : gd k j ≤ gd (learnF h k c) j ∧ (gd k j = -1 → j < 8 → gd (learnF h k c) j = -1) := by
  rw [learn_at hcan]
  split
  · rename_i hx
    obtain ⟨a, ha, he⟩ := hx
    have := path_in hcan _ (gd_mem (pathF h k c).1 a ha)
    rw [he] at this
    exact ⟨by omega, fun e => by omega⟩
  · exact ⟨by omega, fun e _ => e⟩
theorem learn_valid (hcan : canF h k lag c = true) : validF h (learnF h k c) lag = true := by
  have hv := (can_at hcan).1
  obtain ⟨g1, g2, g3, g4, g5, g6⟩ := valid_holders hv
  refine validF_of g1 (learn_length hcan) ⟨g3, g4⟩ fun j hj => ?_
  have hw := lastW_in hcan
  have hm := learn_more hcan j
  have hle : gd (learnF h k c) j ≤ (h.length : Int) - 1 := by
    rw [learn_at hcan]
    have := valid_known' hv j hj
    split <;> omega
  rcases valid_all hv j hj with h1 | ⟨h1, h2, h3, h4⟩
  · exact .inl (hm.2 h1 hj)
  · exact .inr ⟨by omega, by omega, hle, fun i a b d => by have := h4 i a b d; omega⟩
theorem learn_can (hcan : canF h k lag c = true) : canF h (learnF h k c) lag c = true := by
  have h1 := learn_valid hcan
  have hc := (can_at hcan).2
  simp only [canF, h1, Bool.true_and, Bool.and_eq_true, decide_eq_true_eq]
  have := learn_more hcan c.toNat
  exact ⟨⟨hc.1, hc.2.1⟩, by have := hc.2.2.1; omega⟩
/-- The call after learning. -/
theorem learn_path (hcan : canF h k lag c = true) : ∃ q, pathF h (learnF h k c) c = (q, (pathF h k c).2) ∧ 1 ≤ q.length ∧ q.length ≤ 2 ∧ (gd q (q.length - 1)).2 = lastW h k c ∧
    ((pathF h k c).2 = 1 → gd q (q.length - 1) = gd (pathF h k c).1 ((pathF h k c).1.length - 1)) := by
  have hv := (can_at hcan).1
  have hat := (can_at hcan).2
  obtain ⟨g1, g2, g3, g4, g5, g6⟩ := valid_holders hv
  have hp := path_ok hcan
  have hw := lastW_in hcan
  have hpos := hp.pos
  have hin := path_in hcan
  have hlast := hin _ (gd_mem (pathF h k c).1 ((pathF h k c).1.length - 1) (by omega))
  have mc : gd (learnF h k c) c.toNat = lastW h k c := by
    rw [learn_at hcan, if_pos ⟨0, hpos, by rw [hp.zero]⟩]; omega
  have hfin := hp.fin
  have hlw : (gd (pathF h k c).1 ((pathF h k c).1.length - 1)).2 = lastW h k c := rfl
  rw [hlw] at hfin
  have mlast : gd (learnF h k c) (gd (pathF h k c).1 ((pathF h k c).1.length - 1)).1.toNat = lastW h k c := by
    rw [learn_at hcan, if_pos ⟨_, by omega, rfl⟩]
    have : gd k (gd (pathF h k c).1 ((pathF h k c).1.length - 1)).1.toNat ≤ lastW h k c := by
      by_cases e : (pathF h k c).1.length - 1 = 0
      · rw [e, hp.zero]; exact hw.2.2.1
      · have := (hp.step ((pathF h k c).1.length - 2) (by omega)).2.2
        rw [show (pathF h k c).1.length - 2 + 1 = (pathF h k c).1.length - 1 from by omega] at this
        omega
    omega
  have hmax : max (lastW h k c) (-1) = lastW h k c := by omega
  have e0 : pathF h (learnF h k c) c = walkF h (learnF h k c) ((h.length - 1) + 2) c (-1) := by unfold pathF; congr 1; omega
  rw [e0]
  generalize hx : gd (pathF h k c).1 ((pathF h k c).1.length - 1) = x at *
  generalize hee : (pathF h k c).2 = e at *
  rcases hfin with ⟨rfl, h1⟩ | ⟨rfl, h1⟩ | ⟨rfl, h1, h2, h3⟩
  · by_cases hc : x.1 = c
    · have hd : decideF h (learnF h k c) c (-1) = (lastW h k c, -1, 1) := by
        unfold decideF; rw [mc, hmax, if_pos (by rw [h1, hc])]
      refine ⟨[(c, lastW h k c)], by rw [walkF, hd]; simp, by simp, by simp, by simp, fun _ => ?_⟩
      simp only [List.length_singleton, Nat.sub_self, gd_cons_zero]
      exact Prod.ext hc.symm hlw.symm
    · have hd : decideF h (learnF h k c) c (-1) = (lastW h k c, x.1, 0) := by
        unfold decideF; rw [mc, hmax, if_neg (by rw [h1]; exact hc), if_neg (by rw [h1]; omega), h1, mlast, if_neg (by omega)]
      have hd2 : decideF h (learnF h k c) x.1 (lastW h k c) = (lastW h k c, -1, 1) := by
        unfold decideF; rw [mlast, show max (lastW h k c) (lastW h k c) = lastW h k c from by omega, if_pos h1]
      refine ⟨[(c, lastW h k c), (x.1, lastW h k c)], by rw [walkF, hd]; simp only; rw [walkF, hd2]; simp, by simp, by simp, by simp, fun _ => ?_⟩
      simp only [List.length_cons, List.length_nil, Nat.zero_add, Nat.add_one_sub_one, gd_cons_succ, gd_cons_zero]
      exact Prod.ext rfl hlw.symm
  · have hd : decideF h (learnF h k c) c (-1) = (lastW h k c, -1, 2) := by
      unfold decideF; rw [mc, hmax, if_neg (by rw [h1]; have := hat.1; omega), if_pos (by omega)]
    exact ⟨[(c, lastW h k c)], by rw [walkF, hd]; simp, by simp, by simp, by simp, fun h => by omega⟩
  · have hh := holders_at g1 (lastW h k c).toNat (by omega)
    have mx := (learn_more hcan (gd h (lastW h k c).toNat).toNat).2 h3 (by omega)
    have hne : gd h (lastW h k c).toNat ≠ c := fun e => by rw [e] at h3; have := hat.2.2.1; omega
    have hd : decideF h (learnF h k c) c (-1) = (lastW h k c, -1, 3) := by
      unfold decideF; rw [mc, hmax, if_neg hne, if_neg (by omega), if_pos (by omega)]
    exact ⟨[(c, lastW h k c)], by rw [walkF, hd]; simp, by simp, by simp, by simp, fun h => by omega⟩

theorem path_good (hcan : canF h k lag c = true) (i : Nat) (hi : i < (pathF h k c).1.length) : ¬ badF h (pathF h k c).1 i := by
  have hp := path_ok hcan
  have h1 := path_in hcan _ (gd_mem (pathF h k c).1 i hi)
  unfold badF
  rintro (h2 | h2 | ⟨h2, h3⟩ | ⟨h2, h3⟩)
  · omega
  · omega
  · have := hp.step (i - 1) (by omega)
    have h4 := hp.asc (i - 1) (by omega)
    rw [show i - 1 + 1 = i from by omega] at this h4
    rcases h3 with h3 | h3
    · exact h3 this.1
    · omega
  · have := hp.step i h2
    have h4 := path_in hcan _ (gd_mem (pathF h k c).1 (i + 1) h2)
    rcases h3 with h3 | h3
    · exact this.2.1 (this.1.trans h3)
    · rw [this.1] at h4; omega
end

theorem blameN_good (h : List Int) (l : List (Int × Int)) : ∀ n v, v + n = l.length → (∀ j, v ≤ j → j < l.length → ¬ badF h l j) → blameN h l v n = -1
  | 0, _, _, _ => rfl
  | n + 1, v, hv, hg => by
    rw [blameN, if_neg (hg v (by omega) (by omega))]
    exact blameN_good h l n (v + 1) (by omega) fun j h1 h2 => hg j (by omega) h2
theorem blameN_bad (h : List Int) (l : List (Int × Int)) (i : Nat) (hi : i < l.length) (hb : badF h l i) : ∀ n v, v + n = l.length → v ≤ i → (∀ j, v ≤ j → j < i → ¬ badF h l j) → blameN h l v n = i
  | 0, _, _, _, _ => by omega
  | n + 1, v, hv, hvi, hg => by
    by_cases e : v = i
    · subst e; rw [blameN, if_pos hb]
    · rw [blameN, if_neg (hg v (by omega) (by omega))]
      exact blameN_bad h l i hi hb n (v + 1) (by omega) (by omega) fun j h1 h2 => hg j (by omega) h2
theorem badF_set {h : List Int} {l : List (Int × Int)} {i j : Nat} {x : Int × Int} (hi : i < l.length) (hj : j < i) : badF h (l.set i x) j ↔ badF h l j := by
  unfold badF
  rw [gd_set _ _ _ _ hi, gd_set _ _ _ _ hi, if_neg (by omega), if_neg (by omega), List.length_set]
section
variable {h k : List Int} {lag c : Int}
theorem path_right (hcan : canF h k lag c = true) : blameF h (pathF h k c).1 = -1 := by
  have hp := path_ok hcan
  rw [blameF, if_pos ⟨(valid_holders (can_at hcan).1).1, hp.pos⟩]
  exact blameN_good _ _ _ _ (by omega) fun j _ h2 => path_good hcan j h2
theorem path_bent (hcan : canF h k lag c = true) (i : Nat) (h0 : 0 < i) (hi : i < (pathF h k c).1.length) (x : Int × Int) (hx : x.1 ≠ (gd (pathF h k c).1 i).1 ∨ x.2 < (gd (pathF h k c).1 (i - 1)).2) : blameF h ((pathF h k c).1.set i x) = i := by
  have hp := path_ok hcan
  rw [blameF, if_pos ⟨(valid_holders (can_at hcan).1).1, by rw [List.length_set]; exact hp.pos⟩]
  refine blameN_bad _ _ i (by rw [List.length_set]; exact hi) ?_ _ _ (by omega) (by omega) fun j _ h2 => fun hb => path_good hcan j (by omega) ((badF_set hi h2).1 hb)
  unfold badF
  rw [gd_set _ _ _ _ hi, gd_set _ _ _ _ hi, if_pos rfl, if_neg (by omega)]
  have := (hp.step (i - 1) (by omega)).1
  rw [show i - 1 + 1 = i from by omega] at this
  rcases hx with hx | hx
  · exact .inr (.inr (.inl ⟨h0, .inl (by rw [← this]; exact hx)⟩))
  · exact .inr (.inr (.inl ⟨h0, .inr hx⟩))
end
end Go.Proofs.Ytmiahmpobpokmaa

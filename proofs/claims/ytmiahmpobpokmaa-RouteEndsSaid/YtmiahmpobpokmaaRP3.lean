/- Chapter 24 in plain words: moves, names, the newest version. -/
import Derived.Test.YtmiahmpobpokmaaRP2
namespace Go.Proofs.Ytmiahmpobpokmaa
open Go.Vai Go

/-! ### Moves -/
def moveM (k : List Int) (z n : Int) : List Int := if 0 ≤ z ∧ 0 ≤ gd k z.toNat then k.set z.toNat n else k
theorem moveM_length (k : List Int) (z n : Int) : (moveM k z n).length = k.length := by unfold moveM; split <;> simp
theorem moveM_at (k : List Int) (z n : Int) (hz : z < k.length) (j : Nat) : gd (moveM k z n) j = if (j : Int) = z ∧ 0 ≤ gd k j then n else gd k j := by
  unfold moveM
  split
  · rename_i h
    rw [gd_set _ _ _ _ (by omega)]
    by_cases e : j = z.toNat
    · rw [if_pos e, if_pos ⟨by omega, by rw [e]; exact h.2⟩]
    · rw [if_neg e, if_neg (by omega)]
  · rename_i h
    rw [if_neg]
    rintro ⟨h1, h2⟩
    exact h ⟨by omega, by rw [← h1]; simpa using h2⟩
def movedM (k : List Int) (old to n : Int) : List Int := moveM (moveM k old n) to n
theorem movedM_length (k : List Int) (old to n : Int) : (movedM k old to n).length = k.length := by simp [movedM, moveM_length]
theorem movedM_at (k : List Int) (old to n : Int) (h1 : old < k.length) (h2 : to < k.length) (hn : 0 ≤ n) (j : Nat) : gd (movedM k old to n) j = if ((j : Int) = old ∨ (j : Int) = to) ∧ 0 ≤ gd k j then n else gd k j := by
  unfold movedM
  rw [moveM_at _ _ _ (by rw [moveM_length]; exact h2), moveM_at _ _ _ h1]
  by_cases a : (j : Int) = old <;> by_cases b : (j : Int) = to <;> by_cases d : 0 ≤ gd k j <;> simp [a, b, d] <;> omega

section
variable {h k g m : List Int} {old to : Int}
theorem decide_moved (hg : ∀ v : Nat, v < h.length → gd g v = gd h v) (hm : ∀ c : Int, 0 ≤ c → c ≠ old → c ≠ to → gd m c.toNat = gd k c.toNat) (hneg : ∀ c : Nat, gd m c < 0 ↔ gd k c < 0)
    {c u : Int} (hc : 0 ≤ c) (h1 : c ≠ old) (h2 : c ≠ to) (hw : max (gd k c.toNat) u ≤ (h.length : Int) - 1) (hw0 : 0 ≤ max (gd k c.toNat) u) : decideF g m c u = decideF h k c u := by
  unfold decideF
  rw [hm c hc h1 h2, hg _ (by omega)]
  simp only [hneg]
theorem walk_moved {lag : Int} (hv : validF h k lag = true) (hg : ∀ v : Nat, v < h.length → gd g v = gd h v) (hm : ∀ c : Int, 0 ≤ c → c ≠ old → c ≠ to → gd m c.toNat = gd k c.toNat) (hneg : ∀ c : Nat, gd m c < 0 ↔ gd k c < 0) :
    ∀ (n n' : Nat) (c u : Int), AtF h k c u → (h.length : Int) - u ≤ n → (h.length : Int) - u ≤ n' →
      (∃ i, i < (walkF h k n c u).1.length ∧ i < (walkF g m n' c u).1.length ∧ ((gd (walkF g m n' c u).1 i).1 = old ∨ (gd (walkF g m n' c u).1 i).1 = to) ∧ (gd (walkF h k n c u).1 i).1 = (gd (walkF g m n' c u).1 i).1 ∧
        ∀ j, j < i → gd (walkF h k n c u).1 j = gd (walkF g m n' c u).1 j ∧ (gd (walkF g m n' c u).1 j).1 ≠ old ∧ (gd (walkF g m n' c u).1 j).1 ≠ to) ∨
      ((walkF h k n c u).1 = (walkF g m n' c u).1 ∧ ∀ x ∈ (walkF g m n' c u).1, x.1 ≠ old ∧ x.1 ≠ to)
  | 0, _, c, u, ha, h1, _ => by have := ha.2.2.2.2.1; omega
  | _ + 1, 0, c, u, ha, _, h1 => by have := ha.2.2.2.2.1; omega
  | n + 1, n' + 1, c, u, ha, h1, h2 => by
    have head : ∀ (h k : List Int) (n : Nat), 0 < (walkF h k (n + 1) c u).1.length ∧ (gd (walkF h k (n + 1) c u).1 0).1 = c := fun h k n => by
      unfold walkF; split <;> simp
    by_cases hc : c = old ∨ c = to
    · refine .inl ⟨0, (head _ _ _).1, (head _ _ _).1, ?_, ?_, fun j hj => by omega⟩
      · rw [(head g m n').2]; exact hc
      · rw [(head h k n).2, (head g m n').2]
    · have hco : c ≠ old := fun e => hc (.inl e)
      have hct : c ≠ to := fun e => hc (.inr e)
      obtain ⟨s1, s2, s3, s4, s5⟩ := at_step hv ha
      have hd : decideF g m c u = decideF h k c u := decide_moved hg hm hneg ha.1 hco hct (by omega) (by omega)
      by_cases he : (decideF h k c u).2.2 = 0
      · have e1 : walkF h k (n + 1) c u = ((c, (decideF h k c u).1) :: (walkF h k n (decideF h k c u).2.1 (decideF h k c u).1).1, (walkF h k n (decideF h k c u).2.1 (decideF h k c u).1).2) := by rw [walkF, if_pos he]
        have e2 : walkF g m (n' + 1) c u = ((c, (decideF h k c u).1) :: (walkF g m n' (decideF h k c u).2.1 (decideF h k c u).1).1, (walkF g m n' (decideF h k c u).2.1 (decideF h k c u).1).2) := by rw [walkF, hd, if_pos he]
        rcases s5 with ⟨_, s6, s7, s8⟩ | ⟨_, s6⟩
        · rw [e1, e2]
          rcases walk_moved hv hg hm hneg n n' _ _ s8 (by omega) (by omega) with ⟨i, i1, i2, i3, i4, i5⟩ | ⟨j1, j2⟩
          · refine .inl ⟨i + 1, by simpa using i1, by simpa using i2, by simpa using i3, by simpa using i4, fun j hj => ?_⟩
            cases j with
            | zero => simp only [gd_cons_zero]; exact ⟨trivial, hco, hct⟩
            | succ j => simp only [gd_cons_succ]; exact i5 j (by omega)
          · refine .inr ⟨by simp only; rw [j1], fun x hx => ?_⟩
            rcases List.mem_cons.1 hx with rfl | hx
            · exact ⟨hco, hct⟩
            · exact j2 x hx
        · omega
      · have e1 : walkF h k (n + 1) c u = ([(c, (decideF h k c u).1)], (decideF h k c u).2.2) := by rw [walkF, if_neg he]
        have e2 : walkF g m (n' + 1) c u = ([(c, (decideF h k c u).1)], (decideF h k c u).2.2) := by rw [walkF, hd, if_neg he]
        rw [e1, e2]
        exact .inr ⟨rfl, fun x hx => by simp at hx; subst hx; exact ⟨hco, hct⟩⟩
end

section
variable {h k : List Int} {lag old to : Int}
theorem moved_valid (hv : validF h k lag = true) (hl : lag ≤ 9) (hh : h.length ≤ 29) (ho : old = gd h (h.length - 1)) (ht : -1 ≤ to ∧ to ≤ 7) : validF (h ++ [to]) (movedM k old to h.length) (lag + 1) = true := by
  obtain ⟨g1, g2, g3, g4, g5, g6⟩ := valid_holders hv
  have hlast := holders_at g1 (h.length - 1) (by omega)
  have hlen : ((h ++ [to]).length : Int) = h.length + 1 := by simp
  refine validF_of ?_ (by rw [movedM_length, g2]) (by omega) fun c hc => ?_
  · have g1' := g1
    simp only [holdersF, Bool.and_eq_true] at g1' ⊢
    refine ⟨(inF_iff _ _ _).2 (by omega), List.all_eq_true.2 fun x hx => ?_⟩
    rcases List.mem_append.1 hx with hx | hx
    · exact List.all_eq_true.1 g1'.2 x hx
    · simp at hx; subst hx; exact (inF_iff _ _ _).2 ht
  · rw [movedM_at _ _ _ _ (by omega) (by omega) (by omega)]
    rcases valid_all hv c hc with h1 | ⟨h1, h2, h3, h4⟩
    · rw [if_neg (by omega)]; exact .inl h1
    · have hgd : ∀ i, i < h.length → gd (h ++ [to]) i = gd h i := fun i hi => gd_append_left _ _ _ hi
      have hgl : gd (h ++ [to]) h.length = to := by rw [gd_append_right _ _ _ (Nat.le_refl _), Nat.sub_self, gd_cons_zero]
      split
      · rename_i e
        refine .inr ⟨by omega, by omega, by omega, fun i a b _ => ?_⟩
        have : i < h.length + 1 := by simpa using b
        omega
      · rename_i e
        refine .inr ⟨by omega, by omega, by omega, fun i a b d => ?_⟩
        have hb : i < h.length + 1 := by simpa using b
        unfold turnsF at d
        by_cases hi : i = h.length
        · subst hi
          rw [hgl, hgd _ (by omega)] at d
          omega
        · rw [hgd _ (by omega), hgd _ (by omega)] at d
          exact h4 i a (by omega) d
theorem moved_can (hv : validF h k lag = true) (hl : lag ≤ 9) (hh : h.length ≤ 29) (ho : old = gd h (h.length - 1)) (ht : -1 ≤ to ∧ to ≤ 7) (d : Int) (hd : 0 ≤ d ∧ d ≤ 7) :
    canF (h ++ [to]) (movedM k old to h.length) (lag + 1) d = canF h k lag d := by
  obtain ⟨g1, g2, g3, g4, g5, g6⟩ := valid_holders hv
  have hlast := holders_at g1 (h.length - 1) (by omega)
  have h1 := moved_valid hv hl hh ho ht
  simp only [canF, h1, hv, Bool.true_and]
  rw [movedM_at _ _ _ _ (by omega) (by omega) (by omega)]
  congr 1
  by_cases hk : 0 ≤ gd k d.toNat
  · split <;> simp [hk] <;> omega
  · rw [if_neg (by omega)]
/-- The paths before and after. -/
theorem moved_path (hv : validF h k lag = true) (hh : h.length ≤ 29) (ho : old = gd h (h.length - 1)) (ht : -1 ≤ to ∧ to ≤ 7) {d : Int} (hcan : canF h k lag d = true) :
    (∃ i, i < (pathF h k d).1.length ∧ i < (pathF (h ++ [to]) (movedM k old to h.length) d).1.length ∧ ((gd (pathF (h ++ [to]) (movedM k old to h.length) d).1 i).1 = old ∨ (gd (pathF (h ++ [to]) (movedM k old to h.length) d).1 i).1 = to) ∧
        (gd (pathF h k d).1 i).1 = (gd (pathF (h ++ [to]) (movedM k old to h.length) d).1 i).1 ∧
        ∀ j, j < i → gd (pathF h k d).1 j = gd (pathF (h ++ [to]) (movedM k old to h.length) d).1 j ∧ (gd (pathF (h ++ [to]) (movedM k old to h.length) d).1 j).1 ≠ old ∧ (gd (pathF (h ++ [to]) (movedM k old to h.length) d).1 j).1 ≠ to) ∨
      ((pathF h k d).1 = (pathF (h ++ [to]) (movedM k old to h.length) d).1 ∧ ∀ x ∈ (pathF (h ++ [to]) (movedM k old to h.length) d).1, x.1 ≠ old ∧ x.1 ≠ to) := by
  obtain ⟨g1, g2, g3, g4, g5, g6⟩ := valid_holders hv
  have hlast := holders_at g1 (h.length - 1) (by omega)
  have at' := movedM_at k old to h.length (by omega) (by omega) (by omega)
  refine walk_moved hv (fun v hv' => gd_append_left _ _ _ hv') (fun c h0 h1 h2 => ?_) (fun c => ?_) (h.length + 1) ((h ++ [to]).length + 1) d (-1) (can_at hcan).2 (by omega) (by simp; omega)
  · rw [at', if_neg (by omega)]
  · rw [at']; split <;> omega
end

/-! ### Names -/
def rotF (t c : Int) : Int := if c < 0 then -1 else (c + t).tmod 8
theorem rotF_in {t c : Int} (ht : 0 ≤ t ∧ t ≤ 7) (hc : -1 ≤ c ∧ c ≤ 7) : -1 ≤ rotF t c ∧ rotF t c ≤ 7 ∧ (rotF t c < 0 ↔ c < 0) ∧ (c < 0 → rotF t c = c) := by
  unfold rotF; split
  · omega
  · rw [Int.tmod_eq_emod_of_nonneg (by omega)]; omega
theorem rotF_inj {t c d : Int} (ht : 0 ≤ t ∧ t ≤ 7) (hc : -1 ≤ c ∧ c ≤ 7) (hd : -1 ≤ d ∧ d ≤ 7) : rotF t c = rotF t d ↔ c = d := by
  refine ⟨fun h => ?_, fun h => by rw [h]⟩
  unfold rotF at h
  split at h <;> split at h
  · omega
  · rw [Int.tmod_eq_emod_of_nonneg (by omega)] at h; omega
  · rw [Int.tmod_eq_emod_of_nonneg (by omega)] at h; omega
  · rw [Int.tmod_eq_emod_of_nonneg (by omega), Int.tmod_eq_emod_of_nonneg (by omega)] at h; omega
theorem rotF_hit {t : Int} (ht : 0 ≤ t ∧ t ≤ 7) (j : Nat) (hj : j < 8) : ∃ c : Nat, c < 8 ∧ rotF t c = j := by
  refine ⟨((j : Int) - t + 8).toNat % 8, Nat.mod_lt _ (by omega), ?_⟩
  unfold rotF
  rw [if_neg (by omega), Int.tmod_eq_emod_of_nonneg (by omega)]; omega
section
variable {h k m : List Int} {lag t : Int}
abbrev rotH (t : Int) (h : List Int) : List Int := h.map (rotF t)
theorem rotH_at (t : Int) (h : List Int) (i : Nat) (hi : i < h.length) : gd (rotH t h) i = rotF t (gd h i) := by
  have : (rotH t h)[i]? = some (rotF t (gd h i)) := by rw [List.getElem?_map, gd_some h i hi]; rfl
  simp [gd, this]
/-- What is known by the other numbers. -/
def TurnedF (t : Int) (k m : List Int) : Prop := m.length = 8 ∧ ∀ c : Nat, c < 8 → gd m (rotF t c).toNat = gd k c
theorem turned_valid (hv : validF h k lag = true) (ht : 0 ≤ t ∧ t ≤ 7) (hm : TurnedF t k m) : validF (rotH t h) m lag = true := by
  obtain ⟨g1, g2, g3, g4, g5, g6⟩ := valid_holders hv
  have hlen : (rotH t h).length = h.length := by simp [rotH]
  refine validF_of ?_ hm.1 ⟨g3, g4⟩ fun j hj => ?_
  · have g1' := g1
    simp only [holdersF, Bool.and_eq_true] at g1' ⊢
    refine ⟨by rw [hlen]; exact g1'.1, List.all_eq_true.2 fun x hx => ?_⟩
    obtain ⟨y, hy, rfl⟩ := List.mem_map.1 hx
    have := (inF_iff _ _ _).1 (List.all_eq_true.1 g1'.2 y hy)
    have := rotF_in ht this
    exact (inF_iff _ _ _).2 ⟨this.1, this.2.1⟩
  · obtain ⟨c, hc, he⟩ := rotF_hit ht j hj
    have e := hm.2 c hc
    rw [he, Int.toNat_natCast] at e
    rw [e, hlen]
    rcases valid_all hv c hc with h1 | ⟨h1, h2, h3, h4⟩
    · exact .inl h1
    · refine .inr ⟨h1, h2, h3, fun i a b d => h4 i a b ?_⟩
      unfold turnsF at d ⊢
      rw [rotH_at _ _ _ b, rotH_at _ _ _ (by omega), ← he] at d
      have i1 := holders_at g1 i b
      have i2 := holders_at g1 (i - 1) (by omega)
      have q1 := rotF_inj ht i1 i2
      have q2 := rotF_inj ht i1 (d := c) (by omega)
      have q3 := rotF_inj ht i2 (d := c) (by omega)
      rw [Ne, q1, q2, q3] at d
      exact d
theorem turned_can (hv : validF h k lag = true) (ht : 0 ≤ t ∧ t ≤ 7) (hm : TurnedF t k m) (d : Int) (hd : 0 ≤ d ∧ d ≤ 7) : canF (rotH t h) m lag (rotF t d) = canF h k lag d := by
  have h1 := turned_valid hv ht hm
  have h2 := rotF_in ht (c := d) (by omega)
  simp only [canF, h1, hv, Bool.true_and]
  have e := hm.2 d.toNat (by omega)
  rw [show ((d.toNat : Nat) : Int) = d from by omega] at e
  rw [e]
  congr 1
  simp only [decide_eq_decide]
  omega
theorem turned_decide (hv : validF h k lag = true) (ht : 0 ≤ t ∧ t ≤ 7) (hm : TurnedF t k m) {c u : Int} (ha : AtF h k c u) :
    decideF (rotH t h) m (rotF t c) u = ((decideF h k c u).1, if (decideF h k c u).2.2 = 0 then rotF t (decideF h k c u).2.1 else (decideF h k c u).2.1, (decideF h k c u).2.2) := by
  obtain ⟨g1, g2, g3, g4, g5, g6⟩ := valid_holders hv
  have hk := valid_known' hv c.toNat (by have := ha.2.1; omega)
  obtain ⟨a1, a2, a3, a4, a5, a6⟩ := ha
  have hw := holders_at g1 (max (gd k c.toNat) u).toNat (by omega)
  have e := hm.2 c.toNat (by omega)
  rw [show ((c.toNat : Nat) : Int) = c from by omega] at e
  unfold decideF
  rw [e, rotH_at _ _ _ (by omega)]
  have r1 := rotF_in ht hw
  have r2 := rotF_inj ht hw (d := c) (by omega)
  by_cases b1 : gd h (max (gd k c.toNat) u).toNat = c
  · rw [if_pos b1, if_pos (r2.2 b1)]; simp
  · rw [if_neg b1, if_neg (fun x => b1 (r2.1 x))]
    by_cases b2 : gd h (max (gd k c.toNat) u).toNat < 0
    · rw [if_pos b2, if_pos (r1.2.2.1.2 b2)]; simp
    · rw [if_neg b2, if_neg (fun x => b2 (r1.2.2.1.1 x))]
      have e2 := hm.2 (gd h (max (gd k c.toNat) u).toNat).toNat (by omega)
      rw [show (((gd h (max (gd k c.toNat) u).toNat).toNat : Nat) : Int) = gd h (max (gd k c.toNat) u).toNat from by omega] at e2
      rw [e2]
      split <;> simp
theorem turned_walk (hv : validF h k lag = true) (ht : 0 ≤ t ∧ t ≤ 7) (hm : TurnedF t k m) : ∀ (n : Nat) (c u : Int), AtF h k c u → (h.length : Int) - u ≤ n →
    walkF (rotH t h) m n (rotF t c) u = ((walkF h k n c u).1.map fun x => (rotF t x.1, x.2), (walkF h k n c u).2)
  | 0, c, u, ha, hn => by have := ha.2.2.2.2.1; omega
  | n + 1, c, u, ha, hn => by
    obtain ⟨s1, s2, s3, s4, s5⟩ := at_step hv ha
    have hd := turned_decide hv ht hm ha
    by_cases he : (decideF h k c u).2.2 = 0
    · rw [if_pos he] at hd
      rcases s5 with ⟨_, s6, s7, s8⟩ | ⟨_, s6⟩
      · have ih := turned_walk hv ht hm n _ _ s8 (by omega)
        rw [walkF, hd, walkF, if_pos he]
        simp only [he, if_true, ih, List.map_cons]
      · omega
    · rw [if_neg he] at hd
      rw [walkF, hd, walkF, if_neg he]
      simp only [if_neg he, List.map_cons, List.map_nil]
theorem turned_path (hv : validF h k lag = true) (ht : 0 ≤ t ∧ t ≤ 7) (hm : TurnedF t k m) {d : Int} (hcan : canF h k lag d = true) :
    pathF (rotH t h) m (rotF t d) = ((pathF h k d).1.map fun x => (rotF t x.1, x.2), (pathF h k d).2) := by
  unfold pathF
  rw [show (rotH t h).length = h.length from by simp [rotH]]
  exact turned_walk hv ht hm _ _ _ (can_at hcan).2 (by omega)
end

/-! ### The newest version -/
section
variable {h k : List Int} {n : Int}
theorem newest_valid (hh : holdersF h = true) (hk : k.length = 8) (hn : n = (h.length : Int) - 1) (hall : ∀ c : Nat, c < 8 → gd k c = -1 ∨ gd k c = n) : validF h k 0 = true := by
  have hl := holdersF_pos hh
  refine validF_of hh hk (by omega) fun c hc => ?_
  rcases hall c hc with h1 | h1
  · exact .inl h1
  · exact .inr ⟨by omega, by omega, by omega, fun i a b _ => by omega⟩
theorem newest_path (hh : holdersF h = true) (hk : k.length = 8) (hn : n = (h.length : Int) - 1) (hall : ∀ c : Nat, c < 8 → gd k c = -1 ∨ gd k c = n) {d : Int} (hd : 0 ≤ d ∧ d ≤ 7) (hkd : gd k d.toNat = n) :
    pathF h k d = if gd h n.toNat = -1 then ([(d, n)], 2) else if gd k (gd h n.toNat).toNat = -1 then ([(d, n)], 3) else if gd h n.toNat = d then ([(d, n)], 1) else ([(d, n), (gd h n.toNat, n)], 1) := by
  have hl := holdersF_pos hh
  have hw := holders_at hh n.toNat (by omega)
  have e0 : pathF h k d = walkF h k ((h.length - 1) + 2) d (-1) := by unfold pathF; congr 1; omega
  have m1 : max n (-1) = n := by omega
  have m2 : max n n = n := by omega
  rw [e0]
  by_cases b1 : gd h n.toNat = -1
  · have hdec : decideF h k d (-1) = (n, -1, 2) := by unfold decideF; rw [hkd, m1, if_neg (by omega), if_pos (by omega)]
    rw [if_pos b1, walkF, hdec]; simp
  · rw [if_neg b1]
    by_cases b2 : gd k (gd h n.toNat).toNat = -1
    · have hne : gd h n.toNat ≠ d := fun e => by rw [e, hkd] at b2; omega
      have hdec : decideF h k d (-1) = (n, -1, 3) := by unfold decideF; rw [hkd, m1, if_neg hne, if_neg (by omega), if_pos (by omega)]
      rw [if_pos b2, walkF, hdec]; simp
    · rw [if_neg b2]
      have hx := (hall (gd h n.toNat).toNat (by omega)).resolve_left b2
      by_cases b3 : gd h n.toNat = d
      · have hdec : decideF h k d (-1) = (n, -1, 1) := by unfold decideF; rw [hkd, m1, if_pos b3]
        rw [if_pos b3, walkF, hdec]; simp
      · have hdec : decideF h k d (-1) = (n, gd h n.toNat, 0) := by unfold decideF; rw [hkd, m1, if_neg b3, if_neg (by omega), if_neg (by omega)]
        have hdec2 : decideF h k (gd h n.toNat) n = (n, -1, 1) := by unfold decideF; rw [hx, m2, if_pos rfl]
        rw [if_neg b3, walkF, hdec]; simp only; rw [walkF, hdec2]; simp
end
end Go.Proofs.Ytmiahmpobpokmaa

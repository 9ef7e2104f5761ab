/- Chapter 39, NettingAround: what is left after cancelling has no cycle, and is no more. -/
import Derived.Test.YtjbgckjcbmmobaaKG
set_option linter.unusedVariables false
set_option linter.unusedSimpArgs false
/- What is left after cancelling, in plain words. -/
namespace Go.Proofs.Ytjbgckjcbmmobaa
open Go.Vai Go

theorem PathOK.le8 {p : List Int} (h : PathOK p) : p.length ≤ 8 := by
  have := nodup_le (p.map Int.toNat) (List.range 8) (List.pairwise_map.2 (h.2.1.imp_of_mem fun {a b} ha hb hab e => by
    have h1 := h.2.2 a ha
    have h2 := h.2.2 b hb
    exact hab (by omega))) (fun x hx => by
    obtain ⟨y, hy, rfl⟩ := List.mem_map.1 hx
    have := h.2.2 y hy
    rw [List.mem_range]; omega)
  rw [List.length_map, List.length_range] at this
  exact this
/-- A path grows, or it meets itself. -/
theorem grow {W : Int → Int → Int} {S : Int → Prop} (hS : ∀ x, S x → (0 ≤ x ∧ x ≤ 7) ∧ ∃ y, S y ∧ 0 < W x y) : ∀ (n : Nat) (p : List Int), PathOK p → (∀ i, i + 1 < p.length → 0 < W (gd p i) (gd p (i + 1))) → S (gd p (p.length - 1)) → 8 < p.length + n → ∃ c, IsCyc W c
  | 0, p, hp, _, _, hn => by have := hp.le8; omega
  | n + 1, p, hp, hw, hs, hn => by
    obtain ⟨_, y, hy, hwy⟩ := hS _ hs
    have hpos := hp.pos
    by_cases hm : y ∈ p
    · obtain ⟨i, hi, e⟩ := (mem_gd p y).1 hm
      have hl : (p.drop i).length = p.length - i := List.length_drop
      refine ⟨p.drop i, ⟨fun h => ?_, hp.2.1.sublist (List.drop_sublist i p), fun x hx => hp.2.2 x (List.mem_of_mem_drop hx)⟩, fun j hj => ?_⟩
      · rw [h] at hl; simp at hl; omega
      · rw [hl] at hj ⊢
        rw [gd_drop, gd_drop]
        by_cases e1 : j + 1 < p.length - i
        · rw [Nat.mod_eq_of_lt e1]; exact hw (i + j) (by omega)
        · rw [show j + 1 = p.length - i from by omega, Nat.mod_self, Nat.add_zero, ← e, show i + j = p.length - 1 from by omega]; exact hwy
    · have h7 := (hS y hy).1
      refine grow hS n (p ++ [y]) (hp.snoc h7.1 h7.2 hm) (fun i hi => ?_) ?_ (by rw [List.length_append, List.length_singleton]; omega)
      · rw [List.length_append, List.length_singleton] at hi
        by_cases e : i + 1 < p.length
        · rw [gd_append_left _ _ _ (by omega), gd_append_left _ _ _ e]; exact hw i e
        · have : i = p.length - 1 := by omega
          subst this
          rw [gd_append_left _ _ _ (by omega), gd_append_right _ _ _ (by omega), show p.length - 1 + 1 - p.length = 0 from by omega]
          exact hwy
      · rw [List.length_append, List.length_singleton, Nat.add_sub_cancel, gd_append_right _ _ _ (by omega), Nat.sub_self]
        exact hy
theorem min_ix (c : List Int) : ∀ n, 0 < n → ∃ k, k < n ∧ ∀ i, i < n → gd c k ≤ gd c i
  | 0, h => by omega
  | n + 1, _ => by
    by_cases h0 : n = 0
    · subst h0
      refine ⟨0, by omega, fun i hi => ?_⟩
      rw [show i = 0 from by omega]; exact Int.le_refl _
    · obtain ⟨k, hk, hm⟩ := min_ix c n (by omega)
      by_cases h : gd c k ≤ gd c n
      · refine ⟨k, by omega, fun i hi => ?_⟩
        by_cases e : i = n
        · subst e; exact h
        · exact hm i (by omega)
      · refine ⟨n, by omega, fun i hi => ?_⟩
        by_cases e : i = n
        · subst e; exact Int.le_refl _
        · have := hm i (by omega); omega
theorem turn_gd (l : List Int) (k i : Nat) (hk : k < l.length) (hi : i < l.length) : gd (l.drop k ++ l.take k) i = gd l ((i + k) % l.length) := by
  by_cases h : i < l.length - k
  · rw [gd_append_left _ _ _ (by rw [List.length_drop]; exact h), gd_drop, Nat.mod_eq_of_lt (by omega), Nat.add_comm]
  · rw [gd_append_right _ _ _ (by rw [List.length_drop]; omega), List.length_drop, gd_take _ _ _ (by omega)]
    congr 1
    rw [Nat.mod_eq_sub_mod (by omega), Nat.mod_eq_of_lt (by omega)]; omega
theorem cyc_min {W : Int → Int → Int} {c : List Int} (h : IsCyc W c) : ∃ c', IsCyc W c' ∧ c'.length = c.length ∧ ∀ i, 0 < i → i < c'.length → gd c' 0 < gd c' i := by
  obtain ⟨k, hk, hm⟩ := min_ix c c.length h.1.pos
  have hperm : (c.drop k ++ c.take k).Perm c := by
    have := List.perm_append_comm (l₁ := c.drop k) (l₂ := c.take k)
    rwa [List.take_append_drop] at this
  have hl := hperm.length_eq
  have hnd : (c.drop k ++ c.take k).Nodup := hperm.nodup_iff.2 h.1.2.1
  have hlt : ∀ n, n % c.length < c.length := fun n => Nat.mod_lt _ h.1.pos
  refine ⟨c.drop k ++ c.take k, ⟨⟨fun e => ?_, hnd, fun x hx => h.1.2.2 x (hperm.mem_iff.1 hx)⟩, fun i hi => ?_⟩, hl, fun i h0 hi => ?_⟩
  · rw [e] at hl; have := h.1.pos; simp at hl; omega
  · rw [hl] at hi ⊢
    rw [turn_gd c k i hk hi, turn_gd c k _ hk (hlt _)]
    have := h.2 ((i + k) % c.length) (hlt _)
    rw [Nat.mod_add_mod] at this
    rw [Nat.mod_add_mod, show i + 1 + k = i + k + 1 from by omega]
    exact this
  · have hne : gd (c.drop k ++ c.take k) 0 ≠ gd (c.drop k ++ c.take k) i := fun e => by
      have := gd_inj hnd (by omega) hi e; omega
    rw [hl] at hi
    rw [turn_gd c k i hk hi, turn_gd c k 0 hk (by omega)] at hne ⊢
    rw [Nat.zero_add, Nat.mod_eq_of_lt hk] at hne ⊢
    have := hm ((i + k) % c.length) (hlt _)
    omega
theorem ext_full {W : Int → Int → Int} {c : List Int} (h : IsCyc W c) (hm : ∀ i, 0 < i → i < c.length → gd c 0 < gd c i) : ∀ n m, m + n = c.length → 0 < m → extF W n (c.take m) ≠ none
  | 0, m, e, h0 => by
    have : c.take m = c := List.take_of_length_le (by omega)
    rw [this, extF]
    have := h.2 (c.length - 1) (by omega)
    rw [show c.length - 1 + 1 = c.length from by omega, Nat.mod_self] at this
    rw [if_pos this]
    exact fun h => by cases h
  | n + 1, m, e, h0 => by
    intro hn
    rw [extF] at hn
    have hl : (c.take m).length = m := by rw [List.length_take]; omega
    rw [gd_take _ _ _ h0, hl, gd_take _ _ _ (by omega)] at hn
    have h1 := hm m h0 (by omega)
    have h2 := h.1.at m (by omega)
    have h3 := h.1.at 0 (by omega)
    have hx := firstS_none _ _ hn (gd c m) (by omega) (by omega)
    have he := h.2 (m - 1) (by omega)
    rw [show m - 1 + 1 = m from by omega, Nat.mod_eq_of_lt (by omega)] at he
    have hnm : gd c m ∉ c.take m := fun hmem => by
      obtain ⟨i, hi, e2⟩ := (mem_gd _ _).1 hmem
      rw [hl] at hi
      rw [gd_take _ _ _ hi] at e2
      have := gd_inj h.1.2.1 (by omega) (by omega) e2; omega
    rw [if_pos ⟨he, hnm⟩] at hx
    refine ext_full h hm n (m + 1) (by omega) (by omega) ?_
    rw [List.take_add_one, gd_some _ m (by omega)]
    exact hx
theorem cycN_none {W : Int → Int → Int} : ∀ k n, cycN W n k = none → ∀ j, n ≤ j → j < n + k → sizeF W j = none
  | 0, n, _, j, h1, h2 => by omega
  | k + 1, n, h, j, h1, h2 => by
    rw [cycN] at h
    cases hs : sizeF W n with
    | some p => rw [hs] at h; cases h
    | none =>
      rw [hs] at h
      by_cases e : j = n
      · subst e; exact hs
      · exact cycN_none k (n + 1) h j (by omega) (by omega)
theorem no_cyc {W : Int → Int → Int} (hn : cycF W = none) {c : List Int} (h : IsCyc W c) (h3 : 3 ≤ c.length) : False := by
  obtain ⟨c', h', hl, hm⟩ := cyc_min h
  have h8 := h'.1.le8
  have hs := cycN_none 6 2 hn (c'.length - 1) (by omega) (by omega)
  have h0 := h'.1.at 0 (by omega)
  have hx := firstS_none _ _ hs (gd c' 0) (by omega) (by omega)
  refine ext_full h' hm (c'.length - 1) 1 (by omega) (by omega) ?_
  rw [show 1 = 0 + 1 from rfl, List.take_add_one, gd_some _ 0 (by omega)]
  exact hx
/-- Somebody owes nobody of the others. -/
theorem sink {q : List Int} (hq : Netted q) (hn : cycF (bkF q) = none) {S : Nat → Prop} (hS : ∀ x, S x → x < 8 ∧ ∃ y, S y ∧ 0 < gd q (8 * x + y)) (x : Nat) : ¬ S x := fun hx => by
  have h8 := (hS x hx).1
  have hS' : ∀ z, (∃ x : Nat, z = (x : Int) ∧ S x) → (0 ≤ z ∧ z ≤ 7) ∧ ∃ y, (∃ x : Nat, y = (x : Int) ∧ S x) ∧ 0 < bkF q z y := fun z hz => by
    obtain ⟨x, rfl, hx⟩ := hz
    obtain ⟨h1, y, hy, hp⟩ := hS x hx
    exact ⟨by omega, y, ⟨y, rfl, hy⟩, by rw [bk_nat]; exact hp⟩
  obtain ⟨c, hc⟩ := grow hS' 8 [(x : Int)] (pathOK_one (by omega) (by omega)) (fun i hi => by simp at hi) ⟨x, rfl, hx⟩ (by simp)
  have hpos := hc.1.pos
  refine no_cyc hn hc (Classical.byContradiction fun h3 => ?_)
  have a0 := hc.1.at 0 hpos
  have e0 := hc.2 0 hpos
  by_cases e : c.length = 1
  · rw [e] at e0
    have := hq.bk a0 a0
    have h1 : (0 + 1) % 1 = 0 := rfl
    rw [h1] at e0
    omega
  · have e2 : c.length = 2 := by omega
    have a1 := hc.1.at 1 (by omega)
    have e1 := hc.2 1 (by omega)
    rw [e2] at e0 e1
    have := hq.bk a0 a1
    have h1 : (0 + 1) % 2 = 1 := rfl
    have h2 : (1 + 1) % 2 = 0 := rfl
    rw [h1] at e0
    rw [h2] at e1
    omega
/-- How many are gone. -/
def cntB (g : List Bool) : Nat → Nat
  | 0 => 0
  | i + 1 => cntB g i + if gd g i = true then 1 else 0
theorem cntB_le (g : List Bool) : ∀ n, cntB g n ≤ n
  | 0 => Nat.le_refl _
  | n + 1 => by have := cntB_le g n; rw [cntB]; split <;> omega
theorem cntB_all (g : List Bool) : ∀ n, n ≤ cntB g n → ∀ i, i < n → gd g i = true
  | 0, _, i, hi => by omega
  | n + 1, h, i, hi => by
    have := cntB_le g n
    rw [cntB] at h
    by_cases e : gd g n = true
    · by_cases hin : i = n
      · subst hin; exact e
      · rw [if_pos e] at h; exact cntB_all g n (by omega) i (by omega)
    · rw [if_neg e] at h; omega
theorem cntB_mono {g g' : List Bool} : ∀ n, (∀ i, i < n → gd g i = true → gd g' i = true) → cntB g n ≤ cntB g' n
  | 0, _ => Nat.le_refl _
  | n + 1, h => by
    have := cntB_mono n fun i hi => h i (by omega)
    rw [cntB, cntB]
    by_cases e : gd g n = true
    · rw [if_pos e, if_pos (h n (by omega) e)]; omega
    · rw [if_neg e]; split <;> omega
theorem cntB_lt {g g' : List Bool} {j : Nat} (hj : gd g j ≠ true) (hj' : gd g' j = true) : ∀ n, j < n → (∀ i, i < n → gd g i = true → gd g' i = true) → cntB g n < cntB g' n
  | 0, h, _ => by omega
  | n + 1, hn, h => by
    rw [cntB, cntB]
    by_cases e : j = n
    · subst e
      have := cntB_mono j fun i hi => h i (by omega)
      rw [if_neg hj, if_pos hj']; omega
    · have := cntB_lt hj hj' n (by omega) fun i hi => h i (by omega)
      by_cases e : gd g n = true
      · rw [if_pos e, if_pos (h n (by omega) e)]; omega
      · rw [if_neg e]; split <;> omega
/-- In each pass somebody goes. -/
theorem pass_more {q : List Int} (hq : Netted q) (hn : cycF (bkF q) = none) {g g' : List Bool} (hmono : ∀ i, i < 8 → gd g i = true → gd g' i = true) (hnew : ∀ i, i < 8 → (∀ b, b < 8 → 0 < gd q (8 * i + b) → gd g b = true) → gd g' i = true) : ∀ n, n ≤ 7 → n ≤ cntB g 8 → n + 1 ≤ cntB g' 8 := fun n h7 h => by
  by_cases hall : 8 ≤ cntB g 8
  · have := cntB_mono 8 hmono; omega
  · have : ∃ j, j < 8 ∧ gd g j ≠ true ∧ gd g' j = true := Classical.byContradiction fun hno => by
      have hS : ∀ x, (x < 8 ∧ gd g x ≠ true) → x < 8 ∧ ∃ y, (y < 8 ∧ gd g y ≠ true) ∧ 0 < gd q (8 * x + y) := fun x hx => by
        refine ⟨hx.1, Classical.byContradiction fun hy => hno ⟨x, hx.1, hx.2, hnew x hx.1 fun b hb hp => Classical.byContradiction fun hb' => hy ⟨b, ⟨hb, hb'⟩, hp⟩⟩⟩
      have hs := sink hq hn (S := fun x => x < 8 ∧ gd g x ≠ true) hS
      have hcnt : ∀ m, m ≤ 8 → m ≤ cntB g m := fun m => by
        induction m with
        | zero => intro _; exact Nat.zero_le _
        | succ m ih =>
          intro hm
          have := ih (by omega)
          rw [cntB, if_pos (Classical.byContradiction fun h => hs m ⟨by omega, h⟩)]; omega
      exact hall (hcnt 8 (Nat.le_refl _))
    obtain ⟨j, j1, j2, j3⟩ := this
    have := cntB_lt j2 j3 8 j1 hmono
    omega
/-- Where a debt stands. -/
def keyD (d : Deb) : Int := 8 * d.1 + d.2.1
theorem listN_key (w : Nat → Nat → Int) : ∀ k, (∀ i, i + 1 < (listN w k).length → keyD (gd (listN w k) i) < keyD (gd (listN w k) (i + 1))) ∧ ∀ d ∈ listN w k, keyD d < k
  | 0 => ⟨fun i hi => by simp [listN] at hi, fun d hd => by simp [listN] at hd⟩
  | k + 1 => by
    obtain ⟨h1, h2⟩ := listN_key w k
    rw [listN]
    split
    · refine ⟨fun i hi => ?_, fun d hd => ?_⟩
      · rw [List.length_append, List.length_singleton] at hi
        by_cases e : i + 1 < (listN w k).length
        · rw [gd_append_left _ _ _ (by omega), gd_append_left _ _ _ e]; exact h1 i e
        · rw [gd_append_left _ _ _ (by omega), gd_append_right _ _ _ (by omega), show i + 1 - (listN w k).length = 0 from by omega]
          have := h2 _ (gd_mem (listN w k) i (by omega))
          simp only [gd_cons_zero, keyD] at *
          omega
      · rcases List.mem_append.1 hd with hd | hd
        · have := h2 d hd; omega
        · simp at hd; subst hd; unfold keyD; simp only; omega
    · rw [List.append_nil]
      exact ⟨h1, fun d hd => by have := h2 d hd; omega⟩
/-- All amounts. -/
def amtN (l : List Deb) (n : Nat) : Int := ((l.take n).map fun d => d.2.2).sum
theorem amtN_succ (l : List Deb) (n : Nat) (h : n < l.length) : amtN l (n + 1) = amtN l n + (gd l n).2.2 := by
  unfold amtN
  rw [List.take_add_one, gd_some l n h]; simp
theorem amtN_all (l : List Deb) : amtN l l.length = (l.map fun d => d.2.2).sum := by unfold amtN; rw [List.take_length]
theorem listN_amt (w : Nat → Nat → Int) : ∀ k, ((listN w k).map fun d => d.2.2).sum = sumN (fun k => if k / 8 ≠ k % 8 ∧ 0 < w (k / 8) (k % 8) then w (k / 8) (k % 8) else 0) k
  | 0 => rfl
  | k + 1 => by
    rw [listN, List.map_append, List.sum_append, sumN, listN_amt w k]
    split <;> simp
theorem sumN_le {F G : Nat → Int} : ∀ n, (∀ i, i < n → F i ≤ G i) → sumN F n ≤ sumN G n
  | 0, _ => Int.le_refl _
  | n + 1, h => by
    have := sumN_le n fun i hi => h i (by omega)
    have := h n (by omega)
    rw [sumN, sumN]; omega
theorem lstF_amt {q : List Int} (hq : Netted q) : ((lstF q).map fun d => d.2.2).sum = sumN (gd q) 64 := by
  rw [lstF, listN_amt]
  refine sumN_congr 64 fun k hk => ?_
  have hr := hq.rng (k / 8) (k % 8) (by omega) (by omega)
  have hd := hq.dia (k / 8) (by omega)
  have e : 8 * (k / 8) + k % 8 = k := by omega
  by_cases h : k / 8 = k % 8
  · rw [if_neg (fun x => x.1 h)]
    rw [← h] at e
    rw [e] at hd; exact hd.symm
  · simp only [e] at hr ⊢
    split
    · rfl
    · omega
theorem rndN_le : ∀ (n : Nat) (q : List Int), Netted q → ∀ k, k < 64 → gd (rndN n q) k ≤ gd q k
  | 0, _, _, _, _ => Int.le_refl _
  | n + 1, q, hq, k, hk => by
    rw [rndN]
    cases hc : cycF (bkF q) with
    | none => exact Int.le_refl _
    | some c =>
      obtain ⟨h1, h2, _⟩ := cycF_some hc
      have h3 := rndN_le n _ (stepF_netted hq h1) k hk
      have := stepF_le hq h1 (a := ((k / 8 : Nat) : Int)) (b := ((k % 8 : Nat) : Int)) (by omega) (by omega)
      rw [bk_nat, bk_nat, show 8 * (k / 8) + k % 8 = k from by omega] at this
      simp only
      omega
theorem all_amt : ∀ (l : List Deb), (∀ d ∈ l, (0 ≤ d.1 ∧ d.1 ≤ 7) ∧ (0 ≤ d.2.1 ∧ d.2.1 ≤ 7)) → sumN (fun k => dS l ((k / 8 : Nat) : Int) ((k % 8 : Nat) : Int)) 64 = (l.map fun d => d.2.2).sum
  | [], _ => by unfold dS; simp only [List.map_nil, List.sum_nil]; exact sumN_zero 64
  | d :: l, h => by
    have hd := h d (by simp)
    have ih := all_amt l fun e he => h e (List.mem_cons_of_mem _ he)
    have e1 : ∀ k, k < 64 → dS (d :: l) ((k / 8 : Nat) : Int) ((k % 8 : Nat) : Int) = (if k = (8 * d.1 + d.2.1).toNat then d.2.2 else 0) + dS l ((k / 8 : Nat) : Int) ((k % 8 : Nat) : Int) := fun k hk => by
      unfold dS
      rw [List.map_cons, List.sum_cons, dF]
      congr 1
      by_cases e : k = (8 * d.1 + d.2.1).toNat
      · rw [if_pos e, if_pos ⟨by omega, by omega⟩]
      · rw [if_neg e, if_neg (fun x => e (by omega))]
    rw [sumN_congr 64 e1, sumN_add, ih, sumN_one, if_pos (by omega), List.map_cons, List.sum_cons]
/-- What is left is no more than the pairs, and these no more than all. -/
theorem amts {l : List Deb} (h : debtsF l 1000000000 = true) : ((lstF (rndF (bookF l))).map fun d => d.2.2).sum ≤ ((lstF (bookF l)).map fun d => d.2.2).sum ∧ ((lstF (bookF l)).map fun d => d.2.2).sum ≤ (l.map fun d => d.2.2).sum := by
  have hb := bookF_netted l h
  have hr := (rndF_netted hb).2
  rw [lstF_amt hb, lstF_amt hr, ← all_amt l (deb_in h)]
  refine ⟨sumN_le 64 fun k hk => rndN_le _ _ hb k hk, sumN_le 64 fun k hk => ?_⟩
  have hg := bookF_gd l (k / 8) (k % 8) (by omega) (by omega)
  rw [show 8 * (k / 8) + k % 8 = k from by omega] at hg
  have d1 := debN_le l ((debtsF_iff _ _).1 h).2 (by omega) ((k / 8 : Nat) : Int) ((k % 8 : Nat) : Int) l.length (Nat.le_refl _)
  have d2 := debN_le l ((debtsF_iff _ _).1 h).2 (by omega) ((k % 8 : Nat) : Int) ((k / 8 : Nat) : Int) l.length (Nat.le_refl _)
  rw [hg, dS_deb]
  omega
/-- Each that is left was one of the pairs. -/
theorem left_pair {l : List Deb} (h : debtsF l 1000000000 = true) {d : Deb} (hd : d ∈ lstF (rndF (bookF l))) : ∃ e ∈ lstF (bookF l), d.1 = e.1 ∧ d.2.1 = e.2.1 ∧ d.2.2 ≤ e.2.2 := by
  have hb := bookF_netted l h
  obtain ⟨a, b, ha, hb', hab, hp, rfl⟩ := lstF_mem.1 hd
  have := rndN_le (posN (bookF l) 64) (bookF l) hb (8 * a + b) (by omega)
  have hp' : 0 < gd (rndN (posN (bookF l) 64) (bookF l)) (8 * a + b) := hp
  exact ⟨_, lstF_mem.2 ⟨a, b, ha, hb', hab, by omega, rfl⟩, rfl, rfl, this⟩
end Go.Proofs.Ytjbgckjcbmmobaa

/- The law of chapter 39 about what is left after cancelling. -/
set_option maxRecDepth 100000
set_option linter.unusedSimpArgs false
namespace Go.Proofs.Ytjbgckjcbmmobaa
open Go.Vai Go Go.Proofs

theorem amtN_in {l : List Deb} (h : ∀ i, i < l.length → 0 ≤ (gd l i).2.2 ∧ (gd l i).2.2 ≤ 60000000000) : ∀ n : Nat, n ≤ l.length → 0 ≤ amtN l n ∧ amtN l n ≤ 60000000000 * (n : Int)
  | 0, _ => by simp [amtN]
  | n + 1, hn => by
    have := amtN_in h n (by omega)
    have := h n (by omega)
    rw [amtN_succ l n (by omega)]; omega
/-- Is it one of the first of these? -/
def fndB (d : Deb) (p : List Deb) : Nat → Bool
  | 0 => false
  | k + 1 => fndB d p k || (decide (d.1 = (gd p k).1) && (decide (d.2.1 = (gd p k).2.1) && decide (d.2.2 ≤ (gd p k).2.2)))
theorem fndB_of {d : Deb} {p : List Deb} : ∀ (n j : Nat), j < n → d.1 = (gd p j).1 → d.2.1 = (gd p j).2.1 → d.2.2 ≤ (gd p j).2.2 → fndB d p n = true
  | 0, j, hj, _, _, _ => by omega
  | n + 1, j, hj, h1, h2, h3 => by
    rw [fndB]
    by_cases e : j = n
    · subst e; simp [h1, h2, h3]
    · rw [fndB_of n j (by omega) h1 h2 h3]; rfl
/-- Does a carrier owe one who is not gone? -/
def owB (r : List Deb) (g : List Bool) (c : Int) : Nat → Bool
  | 0 => false
  | i + 1 => owB r g c i || (decide ((gd r i).1 = c) && !gd g (gd r i).2.1.toNat)
theorem owB_iff {r : List Deb} {g : List Bool} {c : Int} : ∀ n, owB r g c n = true ↔ ∃ i, i < n ∧ (gd r i).1 = c ∧ gd g (gd r i).2.1.toNat = false
  | 0 => by simp [owB]
  | n + 1 => by
    rw [owB, Bool.or_eq_true, owB_iff n, Bool.and_eq_true, decide_eq_true_iff]
    constructor
    · rintro (⟨i, h1, h2⟩ | ⟨h1, h2⟩)
      · exact ⟨i, by omega, h2⟩
      · exact ⟨n, by omega, h1, by simpa using h2⟩
    · rintro ⟨i, h1, h2, h3⟩
      by_cases e : i = n
      · subst e; exact .inr ⟨h2, by simpa using h3⟩
      · exact .inl ⟨i, by omega, h2, h3⟩
theorem lstF_key (q : List Int) : ∀ i, i + 1 < (lstF q).length → keyD (gd (lstF q) i) < keyD (gd (lstF q) (i + 1)) := by
  unfold lstF
  generalize 64 = k
  exact (listN_key _ k).1
@[go_sem] theorem set_bools (l : List Bool) (n : Nat) (x : Bool) : (l.map B).set n (.v (.bool x)) = (l.set n x).map B := by rw [List.map_set]
@[go_sem high] theorem setC_bools (l : List Bool) (j : Nat) (x : Bool) (hj : j < l.length) (h1 : l.length ≠ 1) : setC (.agg (l.map B)) j (B x) = .agg ((l.set j x).map B) := by
  rw [setC_eq, if_neg (by simp; omega)]
  congr 1
  simp only [AV.cells_agg, AV.cells_v, List.length_singleton, ← List.map_take, ← List.map_drop]
  rw [List.set_eq_take_append_cons_drop, if_pos hj]
  simp
@[go_sem] theorem namesL_bools (p : Nat → Bool) (l : List Bool) : AV.namesL p (l.map B) = false := namesL_map p l B fun _ => rfl
@[go_sem] theorem flatL_bools (l : List Bool) : AV.flatL (l.map B) = true := flatL_map l B fun _ => rfl
@[go_sem] theorem allOK_bools (l : List Bool) : allOK 1 (l.map B) = true := allOK_map 1 l B fun _ => ⟨rfl, rfl⟩
section
attribute [local irreducible] lstF rndF bookF
set_option maxHeartbeats 1000000 in
theorem around_ev (x : List Deb) (hl : x.length ≤ 9223372036854775807) (hx : ∀ z ∈ x, R64 z.1 ∧ R64 z.2.1 ∧ R64 z.2.2) : Ev Try.prog 8 [DL x] (B true) := by
  refine ev_of Try.func8 rfl (by kernel_rfl) mo (Nat.le_of_ble_eq_true rfl) ?_
  simp -implicitDefEqProofs (disch := omega) only [go_sem, ↓reduceIte, Nat.reduceEqDiff, Nat.reduceMul, Nat.reduceAdd, Nat.reduceDiv, Nat.reduceBEq, Nat.reduceLeDiff, Int.reduceToNat, Int.reduceNe, Int.reduceEq, Int.reduceLT, Int.reduceLE, Int.reduceBEq, Int.reduceBNe, ne_eq, not_true_eq_false, not_false_eq_true, decide_true, decide_false, List.length_map, Try.ntmps8]
  refine callC_at sane_ev ?_
  simp -implicitDefEqProofs (disch := omega) only [go_sem, ↓reduceIte, Nat.reduceEqDiff, Nat.reduceMul, Nat.reduceAdd, Nat.reduceDiv, Nat.reduceBEq, Nat.reduceLeDiff, Int.reduceToNat, Int.reduceNe, Int.reduceEq, Int.reduceLT, Int.reduceLE, Int.reduceBEq, Int.reduceBNe, ne_eq, not_true_eq_false, not_false_eq_true, decide_true, decide_false, List.length_map]
  refine callC_at (made_ev x hl hx) ?_
  have hd := madeF_debts x
  have h20 : (madeF x).length ≤ 20 := by simp [madeF]; omega
  generalize madeF x = l at *
  have a1 := pairs_valid hd
  have a2 := round_valid hd
  have hb := bookF_netted l hd
  obtain ⟨hno, hr⟩ := rndF_netted hb
  obtain ⟨am1, am2⟩ := amts hd
  have okl : ∀ i, i < l.length → 0 ≤ (gd l i).2.2 ∧ (gd l i).2.2 ≤ 60000000000 := fun i hi => by
    have := ((debtsF_iff _ _).1 hd).2 i hi
    unfold badF at this; omega
  have inp : ∀ d ∈ lstF (bookF l), 0 ≤ d.2.2 ∧ d.2.2 ≤ 60000000000 := fun d h => by
    obtain ⟨a, b, ha, hb', hab, hp, rfl⟩ := lstF_mem.1 h
    have := hb.rng a b ha hb'
    simp only; omega
  have inr : ∀ d ∈ lstF (rndF (bookF l)), (0 ≤ d.1 ∧ d.1 ≤ 7) ∧ (0 ≤ d.2.1 ∧ d.2.1 ≤ 7) ∧ 1 ≤ d.2.2 ∧ d.2.2 ≤ 60000000000 ∧ 0 < gd (rndF (bookF l)) (8 * d.1.toNat + d.2.1.toNat) := fun d h => by
    obtain ⟨a, b, ha, hb', hab, hp, rfl⟩ := lstF_mem.1 h
    have := hr.rng a b ha hb'
    simp only [Int.toNat_natCast]; omega
  have inv : ∀ a b : Nat, a < 8 → b < 8 → 0 < gd (rndF (bookF l)) (8 * a + b) → ∃ i, i < (lstF (rndF (bookF l))).length ∧ (gd (lstF (rndF (bookF l))) i).1 = a ∧ (gd (lstF (rndF (bookF l))) i).2.1 = b := fun a b ha hb' hp => by
    have hab : a ≠ b := fun e => by subst e; have := hr.dia a ha; omega
    obtain ⟨i, hi, e⟩ := (mem_gd _ _).1 (lstF_mem.2 ⟨a, b, ha, hb', hab, hp, rfl⟩)
    exact ⟨i, hi, by rw [← e], by rw [← e]⟩
  have fnd : ∀ i, i < (lstF (rndF (bookF l))).length → fndB (gd (lstF (rndF (bookF l))) i) (lstF (bookF l)) (lstF (bookF l)).length = true := fun i hi => by
    obtain ⟨e, he, h1, h2, h3⟩ := left_pair hd (gd_mem _ i hi)
    obtain ⟨j, hj, rfl⟩ := (mem_gd _ _).1 he
    exact fndB_of _ j hj h1 h2 h3
  have srt : ∀ i, i + 1 < (lstF (rndF (bookF l))).length → keyD (gd (lstF (rndF (bookF l))) i) < keyD (gd (lstF (rndF (bookF l))) (i + 1)) := lstF_key _
  have lp := lstF_length (bookF l)
  have lr := lstF_length (rndF (bookF l))
  rw [← amtN_all, ← amtN_all] at am1 am2
  have okp : ∀ i, i < (lstF (bookF l)).length → 0 ≤ (gd (lstF (bookF l)) i).2.2 ∧ (gd (lstF (bookF l)) i).2.2 ≤ 60000000000 := fun i hi => inp _ (gd_mem _ i hi)
  have okr := fun i (hi : i < (lstF (rndF (bookF l))).length) => inr _ (gd_mem _ i hi)
  clear inp inr
  generalize rndF (bookF l) = q at *
  generalize lstF q = r at *
  generalize lstF (bookF l) = p at *
  have okr' : ∀ i, i < r.length → 0 ≤ (gd r i).2.2 ∧ (gd r i).2.2 ≤ 60000000000 := fun i hi => by have := okr i hi; omega
  have el : l.take l.length = l := List.take_of_length_le (by omega)
  simp -implicitDefEqProofs (disch := omega) only [go_sem, ↓reduceIte, Nat.reduceEqDiff, Nat.reduceMul, Nat.reduceAdd, Nat.reduceDiv, Nat.reduceBEq, Nat.reduceLeDiff, Int.reduceToNat, Int.reduceNe, Int.reduceEq, Int.reduceLT, Int.reduceLE, Int.reduceBEq, Int.reduceBNe, ne_eq, not_true_eq_false, not_false_eq_true, decide_true, decide_false, List.length_map, el]
  refine callC_at a1 ?_
  simp -implicitDefEqProofs (disch := omega) only [go_sem, ↓reduceIte, Nat.reduceEqDiff, Nat.reduceMul, Nat.reduceAdd, Nat.reduceDiv, Nat.reduceBEq, Nat.reduceLeDiff, Int.reduceToNat, Int.reduceNe, Int.reduceEq, Int.reduceLT, Int.reduceLE, Int.reduceBEq, Int.reduceBNe, ne_eq, not_true_eq_false, not_false_eq_true, decide_true, decide_false, List.length_map, el]
  refine callC_at a2 ?_
  simp -implicitDefEqProofs (disch := omega) only [go_sem, ↓reduceIte, Nat.reduceEqDiff, Nat.reduceMul, Nat.reduceAdd, Nat.reduceDiv, Nat.reduceBEq, Nat.reduceLeDiff, Int.reduceToNat, Int.reduceNe, Int.reduceEq, Int.reduceLT, Int.reduceLE, Int.reduceBEq, Int.reduceBNe, ne_eq, not_true_eq_false, not_false_eq_true, decide_true, decide_false, List.length_map, el]
  refine loopC_mk (fun n E σ => ∃ i : Nat, i + n = l.length ∧ E 3 = .own 18874768 3 0 l.length ∧ E 4 = .own 18874816 3 0 p.length ∧ E 6 = .own 18874896 3 0 r.length ∧ E 8 = I (amtN l i) ∧ E 9 = I i ∧ σ 18874768 = some ⟨47, 3, l.map DP⟩ ∧ σ 18874816 = some ⟨47, 3, p.map DP⟩ ∧ σ 18874896 = some ⟨47, 3, r.map DP⟩) l.length ⟨0, by omega, ?_⟩ ?_
  · simp -implicitDefEqProofs (disch := omega) only [go_sem, ↓reduceIte, Nat.reduceEqDiff, Nat.reduceMul, Nat.reduceAdd, Nat.reduceDiv, Nat.reduceBEq, Nat.reduceLeDiff, Int.reduceToNat, Int.reduceNe, Int.reduceEq, Int.reduceLT, Int.reduceLE, Int.reduceBEq, Int.reduceBNe, ne_eq, not_true_eq_false, not_false_eq_true, decide_true, decide_false, List.length_map, el]
    rw [show amtN l 0 = 0 from by simp [amtN]]; exact ⟨rfl, rfl⟩
  · rintro n E σ ⟨i, hi, h3, h4, h6, h8, h9, m3, m4, m6⟩
    simp -implicitDefEqProofs (disch := omega) only [go_sem, ↓reduceIte, Nat.reduceEqDiff, Nat.reduceMul, Nat.reduceAdd, Nat.reduceDiv, Nat.reduceBEq, Nat.reduceLeDiff, Int.reduceToNat, Int.reduceNe, Int.reduceEq, Int.reduceLT, Int.reduceLE, Int.reduceBEq, Int.reduceBNe, ne_eq, not_true_eq_false, not_false_eq_true, decide_true, decide_false, List.length_map, h3, h4, h6, h8, h9, m3, m4, m6]
    have hri := amtN_in okl i (by omega)
    refine branch_mk (fun hc => ?_) (fun hc => ?_)
    · have k1 : IntKind.i64.wrap (amtN l i + (gd l i).2.2) = amtN l i + (gd l i).2.2 := by have := okl i (by omega); exact wrap64_of (by omega)
      have k2 := amtN_succ l i (by omega)
      simp -implicitDefEqProofs (disch := omega) only [go_sem, ↓reduceIte, Nat.reduceEqDiff, Nat.reduceMul, Nat.reduceAdd, Nat.reduceDiv, Nat.reduceBEq, Nat.reduceLeDiff, Int.reduceToNat, Int.reduceNe, Int.reduceEq, Int.reduceLT, Int.reduceLE, Int.reduceBEq, Int.reduceBNe, ne_eq, not_true_eq_false, not_false_eq_true, decide_true, decide_false, List.length_map, h3, h4, h6, h8, h9, m3, m4, m6, k1]
      refine againQ_mk (n - 1) (by omega) ⟨i + 1, by omega, ?_⟩
      simp -implicitDefEqProofs (disch := omega) only [go_sem, ↓reduceIte, Nat.reduceEqDiff, Nat.reduceMul, Nat.reduceAdd, Nat.reduceDiv, Nat.reduceBEq, Nat.reduceLeDiff, Int.reduceToNat, Int.reduceNe, Int.reduceEq, Int.reduceLT, Int.reduceLE, Int.reduceBEq, Int.reduceBNe, ne_eq, not_true_eq_false, not_false_eq_true, decide_true, decide_false, List.length_map, h3, h4, h6, h8, h9, m3, m4, m6, k2]
      simp
    · have : i = l.length := by omega
      subst this
      simp -implicitDefEqProofs (disch := omega) only [go_sem, ↓reduceIte, Nat.reduceEqDiff, Nat.reduceMul, Nat.reduceAdd, Nat.reduceDiv, Nat.reduceBEq, Nat.reduceLeDiff, Int.reduceToNat, Int.reduceNe, Int.reduceEq, Int.reduceLT, Int.reduceLE, Int.reduceBEq, Int.reduceBNe, ne_eq, not_true_eq_false, not_false_eq_true, decide_true, decide_false, List.length_map, h3, h4, h6, h8, h9, m3, m4, m6]
      refine loopC_mk (fun n E σ => ∃ i : Nat, i + n = p.length ∧ E 4 = .own 18874816 3 0 p.length ∧ E 6 = .own 18874896 3 0 r.length ∧ E 8 = I (amtN l l.length) ∧ E 10 = I (amtN p i) ∧ E 11 = I i ∧ σ 18874816 = some ⟨47, 3, p.map DP⟩ ∧ σ 18874896 = some ⟨47, 3, r.map DP⟩) p.length ⟨0, by omega, ?_⟩ ?_
      · simp -implicitDefEqProofs (disch := omega) only [go_sem, ↓reduceIte, Nat.reduceEqDiff, Nat.reduceMul, Nat.reduceAdd, Nat.reduceDiv, Nat.reduceBEq, Nat.reduceLeDiff, Int.reduceToNat, Int.reduceNe, Int.reduceEq, Int.reduceLT, Int.reduceLE, Int.reduceBEq, Int.reduceBNe, ne_eq, not_true_eq_false, not_false_eq_true, decide_true, decide_false, List.length_map, h3, h4, h6, h8, h9, m3, m4, m6]
        rw [show amtN p 0 = 0 from by simp [amtN]]; exact ⟨rfl, rfl⟩
      · clear h3 h4 h6 h8 h9 m3 m4 m6 hi hc E σ
        rintro n E σ ⟨i, hi, h4, h6, h8, h10, h11, m4, m6⟩
        simp -implicitDefEqProofs (disch := omega) only [go_sem, ↓reduceIte, Nat.reduceEqDiff, Nat.reduceMul, Nat.reduceAdd, Nat.reduceDiv, Nat.reduceBEq, Nat.reduceLeDiff, Int.reduceToNat, Int.reduceNe, Int.reduceEq, Int.reduceLT, Int.reduceLE, Int.reduceBEq, Int.reduceBNe, ne_eq, not_true_eq_false, not_false_eq_true, decide_true, decide_false, List.length_map, h4, h6, h8, h10, h11, m4, m6]
        have hrp := amtN_in okp i (by omega)
        refine branch_mk (fun hc => ?_) (fun hc => ?_)
        · have k1 : IntKind.i64.wrap (amtN p i + (gd p i).2.2) = amtN p i + (gd p i).2.2 := by have := okp i (by omega); exact wrap64_of (by omega)
          have k2 := amtN_succ p i (by omega)
          simp -implicitDefEqProofs (disch := omega) only [go_sem, ↓reduceIte, Nat.reduceEqDiff, Nat.reduceMul, Nat.reduceAdd, Nat.reduceDiv, Nat.reduceBEq, Nat.reduceLeDiff, Int.reduceToNat, Int.reduceNe, Int.reduceEq, Int.reduceLT, Int.reduceLE, Int.reduceBEq, Int.reduceBNe, ne_eq, not_true_eq_false, not_false_eq_true, decide_true, decide_false, List.length_map, h4, h6, h8, h10, h11, m4, m6, k1]
          refine againQ_mk (n - 1) (by omega) ⟨i + 1, by omega, ?_⟩
          simp -implicitDefEqProofs (disch := omega) only [go_sem, ↓reduceIte, Nat.reduceEqDiff, Nat.reduceMul, Nat.reduceAdd, Nat.reduceDiv, Nat.reduceBEq, Nat.reduceLeDiff, Int.reduceToNat, Int.reduceNe, Int.reduceEq, Int.reduceLT, Int.reduceLE, Int.reduceBEq, Int.reduceBNe, ne_eq, not_true_eq_false, not_false_eq_true, decide_true, decide_false, List.length_map, h4, h6, h8, h10, h11, m4, m6, k2]
          simp
        · have : i = p.length := by omega
          subst this
          simp -implicitDefEqProofs (disch := omega) only [go_sem, ↓reduceIte, Nat.reduceEqDiff, Nat.reduceMul, Nat.reduceAdd, Nat.reduceDiv, Nat.reduceBEq, Nat.reduceLeDiff, Int.reduceToNat, Int.reduceNe, Int.reduceEq, Int.reduceLT, Int.reduceLE, Int.reduceBEq, Int.reduceBNe, ne_eq, not_true_eq_false, not_false_eq_true, decide_true, decide_false, List.length_map, h4, h6, h8, h10, h11, m4, m6]
          refine loopC_mk (fun n E σ => ∃ i : Nat, i + n = r.length ∧ E 4 = .own 18874816 3 0 p.length ∧ E 6 = .own 18874896 3 0 r.length ∧ E 8 = I (amtN l l.length) ∧ E 10 = I (amtN p p.length) ∧ E 12 = I (amtN r i) ∧ E 13 = I i ∧ σ 18874816 = some ⟨47, 3, p.map DP⟩ ∧ σ 18874896 = some ⟨47, 3, r.map DP⟩) r.length ⟨0, by omega, ?_⟩ ?_
          · simp -implicitDefEqProofs (disch := omega) only [go_sem, ↓reduceIte, Nat.reduceEqDiff, Nat.reduceMul, Nat.reduceAdd, Nat.reduceDiv, Nat.reduceBEq, Nat.reduceLeDiff, Int.reduceToNat, Int.reduceNe, Int.reduceEq, Int.reduceLT, Int.reduceLE, Int.reduceBEq, Int.reduceBNe, ne_eq, not_true_eq_false, not_false_eq_true, decide_true, decide_false, List.length_map, h4, h6, h8, h10, h11, m4, m6]
            rw [show amtN r 0 = 0 from by simp [amtN]]; exact ⟨rfl, rfl⟩
          · clear h4 h6 h8 h10 h11 m4 m6 hi hc E σ
            rintro n E σ ⟨i, hi, h4, h6, h8, h10, h12, h13, m4, m6⟩
            simp -implicitDefEqProofs (disch := omega) only [go_sem, ↓reduceIte, Nat.reduceEqDiff, Nat.reduceMul, Nat.reduceAdd, Nat.reduceDiv, Nat.reduceBEq, Nat.reduceLeDiff, Int.reduceToNat, Int.reduceNe, Int.reduceEq, Int.reduceLT, Int.reduceLE, Int.reduceBEq, Int.reduceBNe, ne_eq, not_true_eq_false, not_false_eq_true, decide_true, decide_false, List.length_map, h4, h6, h8, h10, h12, h13, m4, m6]
            have hrr := amtN_in okr' i (by omega)
            refine branch_mk (fun hc => ?_) (fun hc => ?_)
            · have k1 : IntKind.i64.wrap (amtN r i + (gd r i).2.2) = amtN r i + (gd r i).2.2 := by have := okr' i (by omega); exact wrap64_of (by omega)
              have k2 := amtN_succ r i (by omega)
              have okri := okr i (by omega)
              simp -implicitDefEqProofs (disch := omega) only [go_sem, ↓reduceIte, Nat.reduceEqDiff, Nat.reduceMul, Nat.reduceAdd, Nat.reduceDiv, Nat.reduceBEq, Nat.reduceLeDiff, Int.reduceToNat, Int.reduceNe, Int.reduceEq, Int.reduceLT, Int.reduceLE, Int.reduceBEq, Int.reduceBNe, ne_eq, not_true_eq_false, not_false_eq_true, decide_true, decide_false, List.length_map, h4, h6, h8, h10, h12, h13, m4, m6, k1]
              refine loopC_mk (fun m E σ => ∃ k : Nat, k + m = p.length ∧ E 4 = .own 18874816 3 0 p.length ∧ E 6 = .own 18874896 3 0 r.length ∧ E 8 = I (amtN l l.length) ∧ E 10 = I (amtN p p.length) ∧ E 12 = I (amtN r (i + 1)) ∧ E 13 = I i ∧ E 14 = B (fndB (gd r i) p k) ∧ E 15 = I k ∧ σ 18874816 = some ⟨47, 3, p.map DP⟩ ∧ σ 18874896 = some ⟨47, 3, r.map DP⟩) p.length ⟨0, by omega, ?_⟩ ?_
              · simp -implicitDefEqProofs (disch := omega) only [go_sem, ↓reduceIte, Nat.reduceEqDiff, Nat.reduceMul, Nat.reduceAdd, Nat.reduceDiv, Nat.reduceBEq, Nat.reduceLeDiff, Int.reduceToNat, Int.reduceNe, Int.reduceEq, Int.reduceLT, Int.reduceLE, Int.reduceBEq, Int.reduceBNe, ne_eq, not_true_eq_false, not_false_eq_true, decide_true, decide_false, List.length_map, h4, h6, h8, h10, h12, h13, m4, m6, k1, k2]
                exact ⟨rfl, rfl⟩
              · clear h4 h6 h8 h10 h12 h13 m4 m6 E σ
                rintro m E σ ⟨k, hk, h4, h6, h8, h10, h12, h13, h14, h15, m4, m6⟩
                simp -implicitDefEqProofs (disch := omega) only [go_sem, ↓reduceIte, Nat.reduceEqDiff, Nat.reduceMul, Nat.reduceAdd, Nat.reduceDiv, Nat.reduceBEq, Nat.reduceLeDiff, Int.reduceToNat, Int.reduceNe, Int.reduceEq, Int.reduceLT, Int.reduceLE, Int.reduceBEq, Int.reduceBNe, ne_eq, not_true_eq_false, not_false_eq_true, decide_true, decide_false, List.length_map, h4, h6, h8, h10, h12, h13, m4, m6, h15]
                refine branch_mk (fun hb => ?_) (fun hb => ?_)
                · cases hfb : fndB (gd r i) p k
                  · rw [hfb] at h14
                    simp -implicitDefEqProofs (disch := omega) only [go_sem, ↓reduceIte, Nat.reduceEqDiff, Nat.reduceMul, Nat.reduceAdd, Nat.reduceDiv, Nat.reduceBEq, Nat.reduceLeDiff, Int.reduceToNat, Int.reduceNe, Int.reduceEq, Int.reduceLT, Int.reduceLE, Int.reduceBEq, Int.reduceBNe, ne_eq, not_true_eq_false, not_false_eq_true, decide_true, decide_false, List.length_map, h4, h6, h8, h10, h12, h13, m4, m6, h14, h15]
                    refine branch_mk (fun hq1 => ?_) (fun hq1 => ?_)
                    · simp -implicitDefEqProofs (disch := omega) only [go_sem, ↓reduceIte, Nat.reduceEqDiff, Nat.reduceMul, Nat.reduceAdd, Nat.reduceDiv, Nat.reduceBEq, Nat.reduceLeDiff, Int.reduceToNat, Int.reduceNe, Int.reduceEq, Int.reduceLT, Int.reduceLE, Int.reduceBEq, Int.reduceBNe, ne_eq, not_true_eq_false, not_false_eq_true, decide_true, decide_false, List.length_map, h4, h6, h8, h10, h12, h13, m4, m6, h14, h15]
                      refine branch_mk (fun hq2 => ?_) (fun hq2 => ?_)
                      · have k3 : fndB (gd r i) p (k + 1) = decide ((gd r i).2.2 ≤ (gd p k).2.2) := by rw [fndB, hfb, hq1, hq2]; simp
                        simp -implicitDefEqProofs (disch := omega) only [go_sem, ↓reduceIte, Nat.reduceEqDiff, Nat.reduceMul, Nat.reduceAdd, Nat.reduceDiv, Nat.reduceBEq, Nat.reduceLeDiff, Int.reduceToNat, Int.reduceNe, Int.reduceEq, Int.reduceLT, Int.reduceLE, Int.reduceBEq, Int.reduceBNe, ne_eq, not_true_eq_false, not_false_eq_true, decide_true, decide_false, List.length_map, h4, h6, h8, h10, h12, h13, m4, m6, h14, h15]
                        refine againQ_mk (m - 1) (by omega) ⟨k + 1, by omega, ?_⟩
                        simp -implicitDefEqProofs (disch := omega) only [go_sem, ↓reduceIte, Nat.reduceEqDiff, Nat.reduceMul, Nat.reduceAdd, Nat.reduceDiv, Nat.reduceBEq, Nat.reduceLeDiff, Int.reduceToNat, Int.reduceNe, Int.reduceEq, Int.reduceLT, Int.reduceLE, Int.reduceBEq, Int.reduceBNe, ne_eq, not_true_eq_false, not_false_eq_true, decide_true, decide_false, List.length_map, h4, h6, h8, h10, h12, h13, m4, m6, h14, h15, k3]
                        simp [B]
                      · have k3 : fndB (gd r i) p (k + 1) = false := by rw [fndB, hfb]; simp [hq2]
                        simp -implicitDefEqProofs (disch := omega) only [go_sem, ↓reduceIte, Nat.reduceEqDiff, Nat.reduceMul, Nat.reduceAdd, Nat.reduceDiv, Nat.reduceBEq, Nat.reduceLeDiff, Int.reduceToNat, Int.reduceNe, Int.reduceEq, Int.reduceLT, Int.reduceLE, Int.reduceBEq, Int.reduceBNe, ne_eq, not_true_eq_false, not_false_eq_true, decide_true, decide_false, List.length_map, h4, h6, h8, h10, h12, h13, m4, m6, h14, h15]
                        refine againQ_mk (m - 1) (by omega) ⟨k + 1, by omega, ?_⟩
                        simp -implicitDefEqProofs (disch := omega) only [go_sem, ↓reduceIte, Nat.reduceEqDiff, Nat.reduceMul, Nat.reduceAdd, Nat.reduceDiv, Nat.reduceBEq, Nat.reduceLeDiff, Int.reduceToNat, Int.reduceNe, Int.reduceEq, Int.reduceLT, Int.reduceLE, Int.reduceBEq, Int.reduceBNe, ne_eq, not_true_eq_false, not_false_eq_true, decide_true, decide_false, List.length_map, h4, h6, h8, h10, h12, h13, m4, m6, h14, h15, k3]
                        simp [B]
                    · have k3 : fndB (gd r i) p (k + 1) = false := by rw [fndB, hfb]; simp [hq1]
                      simp -implicitDefEqProofs (disch := omega) only [go_sem, ↓reduceIte, Nat.reduceEqDiff, Nat.reduceMul, Nat.reduceAdd, Nat.reduceDiv, Nat.reduceBEq, Nat.reduceLeDiff, Int.reduceToNat, Int.reduceNe, Int.reduceEq, Int.reduceLT, Int.reduceLE, Int.reduceBEq, Int.reduceBNe, ne_eq, not_true_eq_false, not_false_eq_true, decide_true, decide_false, List.length_map, h4, h6, h8, h10, h12, h13, m4, m6, h14, h15]
                      refine againQ_mk (m - 1) (by omega) ⟨k + 1, by omega, ?_⟩
                      simp -implicitDefEqProofs (disch := omega) only [go_sem, ↓reduceIte, Nat.reduceEqDiff, Nat.reduceMul, Nat.reduceAdd, Nat.reduceDiv, Nat.reduceBEq, Nat.reduceLeDiff, Int.reduceToNat, Int.reduceNe, Int.reduceEq, Int.reduceLT, Int.reduceLE, Int.reduceBEq, Int.reduceBNe, ne_eq, not_true_eq_false, not_false_eq_true, decide_true, decide_false, List.length_map, h4, h6, h8, h10, h12, h13, m4, m6, h14, h15, k3]
                      simp [B]
                  · rw [hfb] at h14
                    have k3 : fndB (gd r i) p (k + 1) = true := by rw [fndB, hfb]; rfl
                    simp -implicitDefEqProofs (disch := omega) only [go_sem, ↓reduceIte, Nat.reduceEqDiff, Nat.reduceMul, Nat.reduceAdd, Nat.reduceDiv, Nat.reduceBEq, Nat.reduceLeDiff, Int.reduceToNat, Int.reduceNe, Int.reduceEq, Int.reduceLT, Int.reduceLE, Int.reduceBEq, Int.reduceBNe, ne_eq, not_true_eq_false, not_false_eq_true, decide_true, decide_false, List.length_map, h4, h6, h8, h10, h12, h13, m4, m6, h14, h15]
                    refine againQ_mk (m - 1) (by omega) ⟨k + 1, by omega, ?_⟩
                    simp -implicitDefEqProofs (disch := omega) only [go_sem, ↓reduceIte, Nat.reduceEqDiff, Nat.reduceMul, Nat.reduceAdd, Nat.reduceDiv, Nat.reduceBEq, Nat.reduceLeDiff, Int.reduceToNat, Int.reduceNe, Int.reduceEq, Int.reduceLT, Int.reduceLE, Int.reduceBEq, Int.reduceBNe, ne_eq, not_true_eq_false, not_false_eq_true, decide_true, decide_false, List.length_map, h4, h6, h8, h10, h12, h13, m4, m6, h14, h15, k3]
                    simp [B]
                · have : k = p.length := by omega
                  subst this
                  rw [fnd i (by omega)] at h14
                  simp -implicitDefEqProofs (disch := omega) only [go_sem, ↓reduceIte, Nat.reduceEqDiff, Nat.reduceMul, Nat.reduceAdd, Nat.reduceDiv, Nat.reduceBEq, Nat.reduceLeDiff, Int.reduceToNat, Int.reduceNe, Int.reduceEq, Int.reduceLT, Int.reduceLE, Int.reduceBEq, Int.reduceBNe, ne_eq, not_true_eq_false, not_false_eq_true, decide_true, decide_false, List.length_map, h4, h6, h8, h10, h12, h13, m4, m6, h14, h15]
                  refine branch_r (by omega) ?_
                  simp -implicitDefEqProofs (disch := omega) only [go_sem, ↓reduceIte, Nat.reduceEqDiff, Nat.reduceMul, Nat.reduceAdd, Nat.reduceDiv, Nat.reduceBEq, Nat.reduceLeDiff, Int.reduceToNat, Int.reduceNe, Int.reduceEq, Int.reduceLT, Int.reduceLE, Int.reduceBEq, Int.reduceBNe, ne_eq, not_true_eq_false, not_false_eq_true, decide_true, decide_false, List.length_map, h4, h6, h8, h10, h12, h13, m4, m6, h14, h15]
                  refine branch_mk (fun hz => ?_) (fun hz => ?_)
                  · have tn : ((i : Int) - 1).toNat = i - 1 := by omega
                    have hkey := srt (i - 1) (by omega)
                    rw [show i - 1 + 1 = i from by omega] at hkey
                    have okr0 := okr (i - 1) (by omega)
                    unfold keyD at hkey
                    simp -implicitDefEqProofs (disch := omega) only [go_sem, ↓reduceIte, Nat.reduceEqDiff, Nat.reduceMul, Nat.reduceAdd, Nat.reduceDiv, Nat.reduceBEq, Nat.reduceLeDiff, Int.reduceToNat, Int.reduceNe, Int.reduceEq, Int.reduceLT, Int.reduceLE, Int.reduceBEq, Int.reduceBNe, ne_eq, not_true_eq_false, not_false_eq_true, decide_true, decide_false, List.length_map, h4, h6, h8, h10, h12, h13, m4, m6, h14, h15, tn]
                    refine branch_r (by omega) ?_
                    simp -implicitDefEqProofs (disch := omega) only [go_sem, ↓reduceIte, Nat.reduceEqDiff, Nat.reduceMul, Nat.reduceAdd, Nat.reduceDiv, Nat.reduceBEq, Nat.reduceLeDiff, Int.reduceToNat, Int.reduceNe, Int.reduceEq, Int.reduceLT, Int.reduceLE, Int.reduceBEq, Int.reduceBNe, ne_eq, not_true_eq_false, not_false_eq_true, decide_true, decide_false, List.length_map, h4, h6, h8, h10, h12, h13, m4, m6, h14, h15, tn]
                    refine branch_mk (fun hf => ?_) (fun hf => ?_)
                    · have hto : ¬ (gd r i).2.1 ≤ (gd r (i - 1)).2.1 := by omega
                      simp -implicitDefEqProofs (disch := omega) only [go_sem, ↓reduceIte, Nat.reduceEqDiff, Nat.reduceMul, Nat.reduceAdd, Nat.reduceDiv, Nat.reduceBEq, Nat.reduceLeDiff, Int.reduceToNat, Int.reduceNe, Int.reduceEq, Int.reduceLT, Int.reduceLE, Int.reduceBEq, Int.reduceBNe, ne_eq, not_true_eq_false, not_false_eq_true, decide_true, decide_false, List.length_map, h4, h6, h8, h10, h12, h13, m4, m6, h14, h15, tn]
                      refine branch_r hto ?_
                      simp -implicitDefEqProofs (disch := omega) only [go_sem, ↓reduceIte, Nat.reduceEqDiff, Nat.reduceMul, Nat.reduceAdd, Nat.reduceDiv, Nat.reduceBEq, Nat.reduceLeDiff, Int.reduceToNat, Int.reduceNe, Int.reduceEq, Int.reduceLT, Int.reduceLE, Int.reduceBEq, Int.reduceBNe, ne_eq, not_true_eq_false, not_false_eq_true, decide_true, decide_false, List.length_map, h4, h6, h8, h10, h12, h13, m4, m6, h14, h15, tn]
                      refine againQ_mk (n - 1) (by omega) ⟨i + 1, by omega, ?_⟩
                      simp -implicitDefEqProofs (disch := omega) only [go_sem, ↓reduceIte, Nat.reduceEqDiff, Nat.reduceMul, Nat.reduceAdd, Nat.reduceDiv, Nat.reduceBEq, Nat.reduceLeDiff, Int.reduceToNat, Int.reduceNe, Int.reduceEq, Int.reduceLT, Int.reduceLE, Int.reduceBEq, Int.reduceBNe, ne_eq, not_true_eq_false, not_false_eq_true, decide_true, decide_false, List.length_map, h4, h6, h8, h10, h12, h13, m4, m6, h14, h15, tn]
                      simp
                    · simp -implicitDefEqProofs (disch := omega) only [go_sem, ↓reduceIte, Nat.reduceEqDiff, Nat.reduceMul, Nat.reduceAdd, Nat.reduceDiv, Nat.reduceBEq, Nat.reduceLeDiff, Int.reduceToNat, Int.reduceNe, Int.reduceEq, Int.reduceLT, Int.reduceLE, Int.reduceBEq, Int.reduceBNe, ne_eq, not_true_eq_false, not_false_eq_true, decide_true, decide_false, List.length_map, h4, h6, h8, h10, h12, h13, m4, m6, h14, h15, tn]
                      refine againQ_mk (n - 1) (by omega) ⟨i + 1, by omega, ?_⟩
                      simp -implicitDefEqProofs (disch := omega) only [go_sem, ↓reduceIte, Nat.reduceEqDiff, Nat.reduceMul, Nat.reduceAdd, Nat.reduceDiv, Nat.reduceBEq, Nat.reduceLeDiff, Int.reduceToNat, Int.reduceNe, Int.reduceEq, Int.reduceLT, Int.reduceLE, Int.reduceBEq, Int.reduceBNe, ne_eq, not_true_eq_false, not_false_eq_true, decide_true, decide_false, List.length_map, h4, h6, h8, h10, h12, h13, m4, m6, h14, h15, tn]
                      simp
                  · simp -implicitDefEqProofs (disch := omega) only [go_sem, ↓reduceIte, Nat.reduceEqDiff, Nat.reduceMul, Nat.reduceAdd, Nat.reduceDiv, Nat.reduceBEq, Nat.reduceLeDiff, Int.reduceToNat, Int.reduceNe, Int.reduceEq, Int.reduceLT, Int.reduceLE, Int.reduceBEq, Int.reduceBNe, ne_eq, not_true_eq_false, not_false_eq_true, decide_true, decide_false, List.length_map, h4, h6, h8, h10, h12, h13, m4, m6, h14, h15]
                    refine againQ_mk (n - 1) (by omega) ⟨i + 1, by omega, ?_⟩
                    simp -implicitDefEqProofs (disch := omega) only [go_sem, ↓reduceIte, Nat.reduceEqDiff, Nat.reduceMul, Nat.reduceAdd, Nat.reduceDiv, Nat.reduceBEq, Nat.reduceLeDiff, Int.reduceToNat, Int.reduceNe, Int.reduceEq, Int.reduceLT, Int.reduceLE, Int.reduceBEq, Int.reduceBNe, ne_eq, not_true_eq_false, not_false_eq_true, decide_true, decide_false, List.length_map, h4, h6, h8, h10, h12, h13, m4, m6, h14, h15]
                    simp
            · have : i = r.length := by omega
              subst this
              simp -implicitDefEqProofs (disch := omega) only [go_sem, ↓reduceIte, Nat.reduceEqDiff, Nat.reduceMul, Nat.reduceAdd, Nat.reduceDiv, Nat.reduceBEq, Nat.reduceLeDiff, Int.reduceToNat, Int.reduceNe, Int.reduceEq, Int.reduceLT, Int.reduceLE, Int.reduceBEq, Int.reduceBNe, ne_eq, not_true_eq_false, not_false_eq_true, decide_true, decide_false, List.length_map, h4, h6, h8, h10, h12, h13, m4, m6]
              refine loopC_mk (fun m E σ => ∃ (n : Nat) (g : List Bool), n + m = 8 ∧ g.length = 8 ∧ n ≤ cntB g 8 ∧ E 6 = .own 18874896 3 0 r.length ∧ E 8 = I (amtN l l.length) ∧ E 10 = I (amtN p p.length) ∧ E 12 = I (amtN r r.length) ∧ E 16 = .ptr 18874624 8 0 0 ∧ E 17 = I n ∧ σ 18874896 = some ⟨47, 3, r.map DP⟩ ∧ σ 18874624 = some ⟨55, 8, [.agg (g.map B)]⟩) 8 ⟨0, [false, false, false, false, false, false, false, false], rfl, rfl, Nat.zero_le _, ?_⟩ ?_
              · simp -implicitDefEqProofs (disch := omega) only [go_sem, ↓reduceIte, Nat.reduceEqDiff, Nat.reduceMul, Nat.reduceAdd, Nat.reduceDiv, Nat.reduceBEq, Nat.reduceLeDiff, Int.reduceToNat, Int.reduceNe, Int.reduceEq, Int.reduceLT, Int.reduceLE, Int.reduceBEq, Int.reduceBNe, ne_eq, not_true_eq_false, not_false_eq_true, decide_true, decide_false, List.length_map, h4, h6, h8, h10, h12, h13, m4, m6]
                rfl
              · clear h4 h6 h8 h10 h12 h13 m4 m6 hi hc E σ
                rintro m E σ ⟨n, g, hn, hg, hcnt, h6, h8, h10, h12, h16, h17, m6, mg⟩
                simp -implicitDefEqProofs (disch := omega) only [go_sem, ↓reduceIte, Nat.reduceEqDiff, Nat.reduceMul, Nat.reduceAdd, Nat.reduceDiv, Nat.reduceBEq, Nat.reduceLeDiff, Int.reduceToNat, Int.reduceNe, Int.reduceEq, Int.reduceLT, Int.reduceLE, Int.reduceBEq, Int.reduceBNe, ne_eq, not_true_eq_false, not_false_eq_true, decide_true, decide_false, List.length_map, h6, h8, h10, h12, h16, h17, m6, mg]
                refine branch_mk (fun hc => ?_) (fun hc => ?_)
                · simp -implicitDefEqProofs (disch := omega) only [go_sem, ↓reduceIte, Nat.reduceEqDiff, Nat.reduceMul, Nat.reduceAdd, Nat.reduceDiv, Nat.reduceBEq, Nat.reduceLeDiff, Int.reduceToNat, Int.reduceNe, Int.reduceEq, Int.reduceLT, Int.reduceLE, Int.reduceBEq, Int.reduceBNe, ne_eq, not_true_eq_false, not_false_eq_true, decide_true, decide_false, List.length_map, h6, h8, h10, h12, h16, h17, m6, mg]
                  refine loopC_mk (fun k E σ => ∃ (c : Nat) (g' : List Bool), c + k = 8 ∧ g'.length = 8 ∧ (∀ i, i < 8 → gd g i = true → gd g' i = true) ∧ (∀ i, i < c → (∀ b, b < 8 → 0 < gd q (8 * i + b) → gd g b = true) → gd g' i = true) ∧ E 6 = .own 18874896 3 0 r.length ∧ E 8 = I (amtN l l.length) ∧ E 10 = I (amtN p p.length) ∧ E 12 = I (amtN r r.length) ∧ E 16 = .ptr 18874624 8 0 0 ∧ E 17 = I n ∧ E 18 = I c ∧ σ 18874896 = some ⟨47, 3, r.map DP⟩ ∧ σ 18874624 = some ⟨55, 8, [.agg (g'.map B)]⟩) 8 ⟨0, g, rfl, hg, fun _ _ h => h, fun _ h => absurd h (Nat.not_lt_zero _), ?_⟩ ?_
                  · simp -implicitDefEqProofs (disch := omega) only [go_sem, ↓reduceIte, Nat.reduceEqDiff, Nat.reduceMul, Nat.reduceAdd, Nat.reduceDiv, Nat.reduceBEq, Nat.reduceLeDiff, Int.reduceToNat, Int.reduceNe, Int.reduceEq, Int.reduceLT, Int.reduceLE, Int.reduceBEq, Int.reduceBNe, ne_eq, not_true_eq_false, not_false_eq_true, decide_true, decide_false, List.length_map, h6, h8, h10, h12, h16, h17, m6, mg]
                    rfl
                  · clear h6 h8 h10 h12 h16 h17 m6 mg E σ
                    rintro k E σ ⟨c, g', hk, hg', hmono, hnew, h6, h8, h10, h12, h16, h17, h18, m6, mg⟩
                    simp -implicitDefEqProofs (disch := omega) only [go_sem, ↓reduceIte, Nat.reduceEqDiff, Nat.reduceMul, Nat.reduceAdd, Nat.reduceDiv, Nat.reduceBEq, Nat.reduceLeDiff, Int.reduceToNat, Int.reduceNe, Int.reduceEq, Int.reduceLT, Int.reduceLE, Int.reduceBEq, Int.reduceBNe, ne_eq, not_true_eq_false, not_false_eq_true, decide_true, decide_false, List.length_map, h6, h8, h10, h12, h16, h17, h18, m6, mg]
                    refine branch_mk (fun hb => ?_) (fun hb => ?_)
                    · simp -implicitDefEqProofs (disch := omega) only [go_sem, ↓reduceIte, Nat.reduceEqDiff, Nat.reduceMul, Nat.reduceAdd, Nat.reduceDiv, Nat.reduceBEq, Nat.reduceLeDiff, Int.reduceToNat, Int.reduceNe, Int.reduceEq, Int.reduceLT, Int.reduceLE, Int.reduceBEq, Int.reduceBNe, ne_eq, not_true_eq_false, not_false_eq_true, decide_true, decide_false, List.length_map, h6, h8, h10, h12, h16, h17, h18, m6, mg]
                      refine loopC_mk (fun j E σ => ∃ i : Nat, i + j = r.length ∧ E 6 = .own 18874896 3 0 r.length ∧ E 8 = I (amtN l l.length) ∧ E 10 = I (amtN p p.length) ∧ E 12 = I (amtN r r.length) ∧ E 16 = .ptr 18874624 8 0 0 ∧ E 17 = I n ∧ E 18 = I c ∧ E 19 = B (owB r g' c i) ∧ E 20 = I i ∧ σ 18874896 = some ⟨47, 3, r.map DP⟩ ∧ σ 18874624 = some ⟨55, 8, [.agg (g'.map B)]⟩) r.length ⟨0, by omega, ?_⟩ ?_
                      · simp -implicitDefEqProofs (disch := omega) only [go_sem, ↓reduceIte, Nat.reduceEqDiff, Nat.reduceMul, Nat.reduceAdd, Nat.reduceDiv, Nat.reduceBEq, Nat.reduceLeDiff, Int.reduceToNat, Int.reduceNe, Int.reduceEq, Int.reduceLT, Int.reduceLE, Int.reduceBEq, Int.reduceBNe, ne_eq, not_true_eq_false, not_false_eq_true, decide_true, decide_false, List.length_map, h6, h8, h10, h12, h16, h17, h18, m6, mg]
                        exact ⟨rfl, rfl⟩
                      · clear h6 h8 h10 h12 h16 h17 h18 m6 mg E σ
                        rintro j E σ ⟨i, hi, h6, h8, h10, h12, h16, h17, h18, h19, h20, m6, mg⟩
                        simp -implicitDefEqProofs (disch := omega) only [go_sem, ↓reduceIte, Nat.reduceEqDiff, Nat.reduceMul, Nat.reduceAdd, Nat.reduceDiv, Nat.reduceBEq, Nat.reduceLeDiff, Int.reduceToNat, Int.reduceNe, Int.reduceEq, Int.reduceLT, Int.reduceLE, Int.reduceBEq, Int.reduceBNe, ne_eq, not_true_eq_false, not_false_eq_true, decide_true, decide_false, List.length_map, h6, h8, h10, h12, h16, h17, h18, h19, h20, m6, mg]
                        refine branch_mk (fun hj => ?_) (fun hj => ?_)
                        · have okri := okr i (by omega)
                          cases hob : owB r g' c i
                          · rw [hob] at h19
                            simp -implicitDefEqProofs (disch := omega) only [go_sem, ↓reduceIte, Nat.reduceEqDiff, Nat.reduceMul, Nat.reduceAdd, Nat.reduceDiv, Nat.reduceBEq, Nat.reduceLeDiff, Int.reduceToNat, Int.reduceNe, Int.reduceEq, Int.reduceLT, Int.reduceLE, Int.reduceBEq, Int.reduceBNe, ne_eq, not_true_eq_false, not_false_eq_true, decide_true, decide_false, List.length_map, h6, h8, h10, h12, h16, h17, h18, h19, h20, m6, mg]
                            refine branch_mk (fun hq1 => ?_) (fun hq1 => ?_)
                            · have hp := pick_ev (gd r i).2.1 8 ⟨by omega, by omega⟩ (by omega)
                              rw [pickF_id (by omega)] at hp
                              have k3 : owB r g' c (i + 1) = !gd g' (gd r i).2.1.toNat := by rw [owB, hob, hq1]; simp
                              have kt : (gd r i).2.1.toNat < 8 := by omega
                              simp -implicitDefEqProofs (disch := omega) only [go_sem, ↓reduceIte, Nat.reduceEqDiff, Nat.reduceMul, Nat.reduceAdd, Nat.reduceDiv, Nat.reduceBEq, Nat.reduceLeDiff, Int.reduceToNat, Int.reduceNe, Int.reduceEq, Int.reduceLT, Int.reduceLE, Int.reduceBEq, Int.reduceBNe, ne_eq, not_true_eq_false, not_false_eq_true, decide_true, decide_false, List.length_map, h6, h8, h10, h12, h16, h17, h18, h19, h20, m6, mg]
                              refine callC_at hp ?_
                              simp -implicitDefEqProofs (disch := omega) only [go_sem, ↓reduceIte, Nat.reduceEqDiff, Nat.reduceMul, Nat.reduceAdd, Nat.reduceDiv, Nat.reduceBEq, Nat.reduceLeDiff, Int.reduceToNat, Int.reduceNe, Int.reduceEq, Int.reduceLT, Int.reduceLE, Int.reduceBEq, Int.reduceBNe, ne_eq, not_true_eq_false, not_false_eq_true, decide_true, decide_false, List.length_map, h6, h8, h10, h12, h16, h17, h18, h19, h20, m6, mg, hg', kt]
                              refine againQ_mk (j - 1) (by omega) ⟨i + 1, by omega, ?_⟩
                              simp -implicitDefEqProofs (disch := omega) only [go_sem, ↓reduceIte, Nat.reduceEqDiff, Nat.reduceMul, Nat.reduceAdd, Nat.reduceDiv, Nat.reduceBEq, Nat.reduceLeDiff, Int.reduceToNat, Int.reduceNe, Int.reduceEq, Int.reduceLT, Int.reduceLE, Int.reduceBEq, Int.reduceBNe, ne_eq, not_true_eq_false, not_false_eq_true, decide_true, decide_false, List.length_map, h6, h8, h10, h12, h16, h17, h18, h19, h20, m6, mg, k3]
                              simp
                            · have k3 : owB r g' c (i + 1) = false := by rw [owB, hob]; simp [hq1]
                              simp -implicitDefEqProofs (disch := omega) only [go_sem, ↓reduceIte, Nat.reduceEqDiff, Nat.reduceMul, Nat.reduceAdd, Nat.reduceDiv, Nat.reduceBEq, Nat.reduceLeDiff, Int.reduceToNat, Int.reduceNe, Int.reduceEq, Int.reduceLT, Int.reduceLE, Int.reduceBEq, Int.reduceBNe, ne_eq, not_true_eq_false, not_false_eq_true, decide_true, decide_false, List.length_map, h6, h8, h10, h12, h16, h17, h18, h19, h20, m6, mg]
                              refine againQ_mk (j - 1) (by omega) ⟨i + 1, by omega, ?_⟩
                              simp -implicitDefEqProofs (disch := omega) only [go_sem, ↓reduceIte, Nat.reduceEqDiff, Nat.reduceMul, Nat.reduceAdd, Nat.reduceDiv, Nat.reduceBEq, Nat.reduceLeDiff, Int.reduceToNat, Int.reduceNe, Int.reduceEq, Int.reduceLT, Int.reduceLE, Int.reduceBEq, Int.reduceBNe, ne_eq, not_true_eq_false, not_false_eq_true, decide_true, decide_false, List.length_map, h6, h8, h10, h12, h16, h17, h18, h19, h20, m6, mg, k3]
                              simp
                          · rw [hob] at h19
                            have k3 : owB r g' c (i + 1) = true := by rw [owB, hob]; rfl
                            simp -implicitDefEqProofs (disch := omega) only [go_sem, ↓reduceIte, Nat.reduceEqDiff, Nat.reduceMul, Nat.reduceAdd, Nat.reduceDiv, Nat.reduceBEq, Nat.reduceLeDiff, Int.reduceToNat, Int.reduceNe, Int.reduceEq, Int.reduceLT, Int.reduceLE, Int.reduceBEq, Int.reduceBNe, ne_eq, not_true_eq_false, not_false_eq_true, decide_true, decide_false, List.length_map, h6, h8, h10, h12, h16, h17, h18, h19, h20, m6, mg]
                            refine againQ_mk (j - 1) (by omega) ⟨i + 1, by omega, ?_⟩
                            simp -implicitDefEqProofs (disch := omega) only [go_sem, ↓reduceIte, Nat.reduceEqDiff, Nat.reduceMul, Nat.reduceAdd, Nat.reduceDiv, Nat.reduceBEq, Nat.reduceLeDiff, Int.reduceToNat, Int.reduceNe, Int.reduceEq, Int.reduceLT, Int.reduceLE, Int.reduceBEq, Int.reduceBNe, ne_eq, not_true_eq_false, not_false_eq_true, decide_true, decide_false, List.length_map, h6, h8, h10, h12, h16, h17, h18, h19, h20, m6, mg, k3]
                            simp
                        · have : i = r.length := by omega
                          subst this
                          have hgo : ∀ v : Bool, (gd g' c = true → v = true) → (gd g' c = false → v = !owB r g' c r.length) → (g'.set c v).length = 8 ∧ (∀ i, i < 8 → gd g i = true → gd (g'.set c v) i = true) ∧ (∀ i, i < c + 1 → (∀ b, b < 8 → 0 < gd q (8 * i + b) → gd g b = true) → gd (g'.set c v) i = true) := fun v v1 v2 => by
                            refine ⟨by rw [List.length_set, hg'], fun i hi h => ?_, fun i hi h => ?_⟩
                            · rw [gd_set _ _ _ _ (by omega)]
                              split
                              · rename_i e; subst e; exact v1 (hmono i hi h)
                              · exact hmono i hi h
                            · rw [gd_set _ _ _ _ (by omega)]
                              split
                              · rename_i e; subst e
                                cases hgc : gd g' i
                                · rw [v2 hgc]
                                  cases how : owB r g' i r.length
                                  · rfl
                                  · obtain ⟨j, j1, j2, j3⟩ := (owB_iff _).1 how
                                    have okj := okr j j1
                                    rw [j2, Int.toNat_natCast] at okj
                                    have := hmono _ (by omega) (h (gd r j).2.1.toNat (by omega) okj.2.2.2.2)
                                    rw [j3] at this; cases this
                                · exact v1 hgc
                              · exact hnew i (by omega) h
                          cases hgc : gd g' c
                          · obtain ⟨o1, o2, o3⟩ := hgo (!owB r g' c r.length) (fun h => by rw [hgc] at h; cases h) (fun _ => rfl)
                            simp -implicitDefEqProofs (disch := omega) only [go_sem, ↓reduceIte, Nat.reduceEqDiff, Nat.reduceMul, Nat.reduceAdd, Nat.reduceDiv, Nat.reduceBEq, Nat.reduceLeDiff, Int.reduceToNat, Int.reduceNe, Int.reduceEq, Int.reduceLT, Int.reduceLE, Int.reduceBEq, Int.reduceBNe, ne_eq, not_true_eq_false, not_false_eq_true, decide_true, decide_false, List.length_map, h6, h8, h10, h12, h16, h17, h18, h19, h20, m6, mg, hg', hgc]
                            refine againQ_mk (k - 1) (by omega) ⟨c + 1, g'.set c (!owB r g' c r.length), by omega, o1, o2, o3, ?_⟩
                            simp -implicitDefEqProofs (disch := omega) only [go_sem, ↓reduceIte, Nat.reduceEqDiff, Nat.reduceMul, Nat.reduceAdd, Nat.reduceDiv, Nat.reduceBEq, Nat.reduceLeDiff, Int.reduceToNat, Int.reduceNe, Int.reduceEq, Int.reduceLT, Int.reduceLE, Int.reduceBEq, Int.reduceBNe, ne_eq, not_true_eq_false, not_false_eq_true, decide_true, decide_false, List.length_map, h6, h8, h10, h12, h16, h17, h18, h19, h20, m6, mg, hg', hgc]
                            simp
                          · obtain ⟨o1, o2, o3⟩ := hgo true (fun _ => rfl) (fun h => by rw [hgc] at h; cases h)
                            simp -implicitDefEqProofs (disch := omega) only [go_sem, ↓reduceIte, Nat.reduceEqDiff, Nat.reduceMul, Nat.reduceAdd, Nat.reduceDiv, Nat.reduceBEq, Nat.reduceLeDiff, Int.reduceToNat, Int.reduceNe, Int.reduceEq, Int.reduceLT, Int.reduceLE, Int.reduceBEq, Int.reduceBNe, ne_eq, not_true_eq_false, not_false_eq_true, decide_true, decide_false, List.length_map, h6, h8, h10, h12, h16, h17, h18, h19, h20, m6, mg, hg', hgc]
                            refine againQ_mk (k - 1) (by omega) ⟨c + 1, g'.set c true, by omega, o1, o2, o3, ?_⟩
                            simp -implicitDefEqProofs (disch := omega) only [go_sem, ↓reduceIte, Nat.reduceEqDiff, Nat.reduceMul, Nat.reduceAdd, Nat.reduceDiv, Nat.reduceBEq, Nat.reduceLeDiff, Int.reduceToNat, Int.reduceNe, Int.reduceEq, Int.reduceLT, Int.reduceLE, Int.reduceBEq, Int.reduceBNe, ne_eq, not_true_eq_false, not_false_eq_true, decide_true, decide_false, List.length_map, h6, h8, h10, h12, h16, h17, h18, h19, h20, m6, mg, hg', hgc]
                            simp
                    · have : c = 8 := by omega
                      subst this
                      have hmore := pass_more hr hno hmono hnew n (by omega) hcnt
                      simp -implicitDefEqProofs (disch := omega) only [go_sem, ↓reduceIte, Nat.reduceEqDiff, Nat.reduceMul, Nat.reduceAdd, Nat.reduceDiv, Nat.reduceBEq, Nat.reduceLeDiff, Int.reduceToNat, Int.reduceNe, Int.reduceEq, Int.reduceLT, Int.reduceLE, Int.reduceBEq, Int.reduceBNe, ne_eq, not_true_eq_false, not_false_eq_true, decide_true, decide_false, List.length_map, h6, h8, h10, h12, h16, h17, h18, m6, mg]
                      refine againQ_mk (m - 1) (by omega) ⟨n + 1, g', by omega, hg', hmore, ?_⟩
                      simp -implicitDefEqProofs (disch := omega) only [go_sem, ↓reduceIte, Nat.reduceEqDiff, Nat.reduceMul, Nat.reduceAdd, Nat.reduceDiv, Nat.reduceBEq, Nat.reduceLeDiff, Int.reduceToNat, Int.reduceNe, Int.reduceEq, Int.reduceLT, Int.reduceLE, Int.reduceBEq, Int.reduceBNe, ne_eq, not_true_eq_false, not_false_eq_true, decide_true, decide_false, List.length_map, h6, h8, h10, h12, h16, h17, h18, m6, mg]
                      simp
                · have : n = 8 := by omega
                  subst this
                  have hall := cntB_all g 8 hcnt
                  simp -implicitDefEqProofs (disch := omega) only [go_sem, ↓reduceIte, Nat.reduceEqDiff, Nat.reduceMul, Nat.reduceAdd, Nat.reduceDiv, Nat.reduceBEq, Nat.reduceLeDiff, Int.reduceToNat, Int.reduceNe, Int.reduceEq, Int.reduceLT, Int.reduceLE, Int.reduceBEq, Int.reduceBNe, ne_eq, not_true_eq_false, not_false_eq_true, decide_true, decide_false, List.length_map, h6, h8, h10, h12, h16, h17, m6, mg]
                  refine loopC_mk (fun k E σ => ∃ c : Nat, c + k = 8 ∧ E 8 = I (amtN l l.length) ∧ E 10 = I (amtN p p.length) ∧ E 12 = I (amtN r r.length) ∧ E 16 = .ptr 18874624 8 0 0 ∧ E 21 = I c ∧ σ 18874624 = some ⟨55, 8, [.agg (g.map B)]⟩) 8 ⟨0, rfl, ?_⟩ ?_
                  · simp -implicitDefEqProofs (disch := omega) only [go_sem, ↓reduceIte, Nat.reduceEqDiff, Nat.reduceMul, Nat.reduceAdd, Nat.reduceDiv, Nat.reduceBEq, Nat.reduceLeDiff, Int.reduceToNat, Int.reduceNe, Int.reduceEq, Int.reduceLT, Int.reduceLE, Int.reduceBEq, Int.reduceBNe, ne_eq, not_true_eq_false, not_false_eq_true, decide_true, decide_false, List.length_map, h6, h8, h10, h12, h16, h17, m6, mg]
                    rfl
                  · clear h6 h8 h10 h12 h16 h17 m6 mg E σ
                    rintro k E σ ⟨c, hk, h8, h10, h12, h16, h21, mg⟩
                    simp -implicitDefEqProofs (disch := omega) only [go_sem, ↓reduceIte, Nat.reduceEqDiff, Nat.reduceMul, Nat.reduceAdd, Nat.reduceDiv, Nat.reduceBEq, Nat.reduceLeDiff, Int.reduceToNat, Int.reduceNe, Int.reduceEq, Int.reduceLT, Int.reduceLE, Int.reduceBEq, Int.reduceBNe, ne_eq, not_true_eq_false, not_false_eq_true, decide_true, decide_false, List.length_map, h8, h10, h12, h16, h21, mg]
                    refine branch_mk (fun hb => ?_) (fun hb => ?_)
                    · have hgc := hall c (by omega)
                      simp -implicitDefEqProofs (disch := omega) only [go_sem, ↓reduceIte, Nat.reduceEqDiff, Nat.reduceMul, Nat.reduceAdd, Nat.reduceDiv, Nat.reduceBEq, Nat.reduceLeDiff, Int.reduceToNat, Int.reduceNe, Int.reduceEq, Int.reduceLT, Int.reduceLE, Int.reduceBEq, Int.reduceBNe, ne_eq, not_true_eq_false, not_false_eq_true, decide_true, decide_false, List.length_map, h8, h10, h12, h16, h21, mg, hg, hgc]
                      refine againQ_mk (k - 1) (by omega) ⟨c + 1, by omega, ?_⟩
                      simp -implicitDefEqProofs (disch := omega) only [go_sem, ↓reduceIte, Nat.reduceEqDiff, Nat.reduceMul, Nat.reduceAdd, Nat.reduceDiv, Nat.reduceBEq, Nat.reduceLeDiff, Int.reduceToNat, Int.reduceNe, Int.reduceEq, Int.reduceLT, Int.reduceLE, Int.reduceBEq, Int.reduceBNe, ne_eq, not_true_eq_false, not_false_eq_true, decide_true, decide_false, List.length_map, h8, h10, h12, h16, h21, mg, hg, hgc]
                      simp
                    · simp -implicitDefEqProofs (disch := omega) only [go_sem, ↓reduceIte, Nat.reduceEqDiff, Nat.reduceMul, Nat.reduceAdd, Nat.reduceDiv, Nat.reduceBEq, Nat.reduceLeDiff, Int.reduceToNat, Int.reduceNe, Int.reduceEq, Int.reduceLT, Int.reduceLE, Int.reduceBEq, Int.reduceBNe, ne_eq, not_true_eq_false, not_false_eq_true, decide_true, decide_false, List.length_map, h8, h10, h12, h16, h21, mg]
                      refine branch_l am1 ?_
                      simp -implicitDefEqProofs (disch := omega) only [go_sem, ↓reduceIte, Nat.reduceEqDiff, Nat.reduceMul, Nat.reduceAdd, Nat.reduceDiv, Nat.reduceBEq, Nat.reduceLeDiff, Int.reduceToNat, Int.reduceNe, Int.reduceEq, Int.reduceLT, Int.reduceLE, Int.reduceBEq, Int.reduceBNe, ne_eq, not_true_eq_false, not_false_eq_true, decide_true, decide_false, List.length_map, h8, h10, h12, h16, h21, mg]
                      simp -implicitDefEqProofs (disch := omega) only [go_sem, ↓reduceIte, Nat.reduceEqDiff, Nat.reduceMul, Nat.reduceAdd, Nat.reduceDiv, Nat.reduceBEq, Nat.reduceLeDiff, Int.reduceToNat, Int.reduceNe, Int.reduceEq, Int.reduceLT, Int.reduceLE, Int.reduceBEq, Int.reduceBNe, ne_eq, not_true_eq_false, not_false_eq_true, decide_true, decide_false, List.length_map, Try.results8]
                      simpa [B] using am2
end
end Go.Proofs.Ytjbgckjcbmmobaa

/- Chapter 39, NettingAround: what is left after cancelling has no cycle, and is no more. -/
set_option maxRecDepth 100000
namespace Go.Proofs.Ytjbgckjcbmmobaa
open Go.Vai Go Go.Proofs

theorem nettingAround_lifted (os : Os) (started : os.Started) (H : Type) (enc : TypeId × Value → H) :
    ReturnsInHanded {} Try.checked os 8 .any (Rows.nettingAroundSpec.pre6 enc Try.prog Try.f8 [] false) (Rows.nettingAroundSpec.post enc Try.prog Try.f8 false true false false) :=
  lifted (C := Try.checked) (tb := 4) (ps := [OX]) own started (by kernel_rfl) Try.func8
    (ChangeSpec.witness6 (enc := enc) (C := Try.checked) false ⟨#[], #[.slice none 0 0], []⟩ 8 (by kernel_rfl) (by kernel_rfl) (by kernel_rfl) (by kernel_rfl))
    laidOut (by kernel_rfl) (by kernel_rfl) (by kernel_rfl) rfl (len_1 fun _ => rfl)
    (fun w => ⟨o_threes, trivial⟩)
    (allP_1 fun a0 h0 => by
      obtain ⟨x0, hx0, hr0, rfl⟩ := h0
      exact around_ev x0 hx0 hr0 )
theorem nettingAround_holds : Rows.NettingAroundSaid :=
  OpenClaim.holds_of_wide 8 Try.f8 rfl rfl rfl rfl rfl rfl rfl ⟨rfl, rfl, rfl, rfl, rfl⟩ rfl rfl rfl rfl rfl (by kernel_rfl) Try.func8 (by kernel_rfl)
    (of_decide_eq_true (by kernel_rfl)) (by unfold Func.isWrapper; first | (rw [if_pos (by decide +kernel)]; kernel_rfl) | (rw [if_neg (by decide +kernel)]; exact ⟨rfl, rfl⟩))
    (fun os started H enc _ => nettingAround_lifted os started H enc)
#print axioms nettingAround_holds
end Go.Proofs.Ytjbgckjcbmmobaa

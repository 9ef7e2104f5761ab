/- Maps, tables; library -/
import Derived.Test.YtndhglacgiidbaaGreatDoorKE
import Derived.Laws.BytesArg
import Derived.Lib.ItoaNum
import Derived.Lib.Atoi
import Derived.Shelf.Strconv.Atoi
import Derived.Shelf.LaysM
import Derived.Shelf.Strconv.Itoa3
import Derived.Shelf.Strings.Repeat
import Derived.Shelf.Strings.SlTrimAscii
set_option linter.unusedVariables false
set_option linter.unusedSimpArgs false
set_option maxRecDepth 100000
namespace Go.Proofs.YtndhglacgiidbaaGreatDoor
open Go.Vai Go Go.Proofs
open Nat (reduceEqDiff reduceMul reduceAdd reduceDiv reduceLeDiff)
open Int (reduceToNat reduceNe reduceEq reduceLT reduceLE)
structure Bk where
  f : Int
  t : Int
  c : Int
  deriving DecidableEq
instance : Inhabited Bk := ⟨⟨0, 0, 0⟩⟩
abbrev rOK (f t : Int) : Prop := 0 ≤ f ∧ f < t ∧ t ≤ 100000000
abbrev cOK (c : Int) : Prop := 0 ≤ c ∧ c ≤ 7
def Bk.has (b : Bk) (n : Int) : Prop := b.f ≤ n ∧ n < b.t
instance (b : Bk) (n : Int) : Decidable (b.has n) := inferInstanceAs (Decidable (_ ∧ _))
def holdB : List Bk → Int → Int
  | [], _ => -1
  | b :: l, n => if b.has n then b.c else holdB l n
def canon : Int → Int → List Bk → Prop
  | _, _, [] => True
  | e, k, b :: l => rOK b.f b.t ∧ cOK b.c ∧ e ≤ b.f ∧ ¬ (b.f = e ∧ b.c = k) ∧ canon b.t b.c l
instance decCanon : ∀ (e k : Int) (l : List Bk), Decidable (canon e k l)
  | _, _, [] => isTrue trivial
  | e, k, b :: l => by
    have := decCanon b.t b.c l
    unfold canon; infer_instance
theorem canon_mono {e e' k k' : Int} : ∀ {l : List Bk}, canon e k l → (∀ b l', l = b :: l' → e' ≤ b.f ∧ ¬ (b.f = e' ∧ b.c = k')) → canon e' k' l
  | [], _, _ => trivial
  | b :: l, ⟨h1, h2, _, _, h5⟩, h => ⟨h1, h2, (h b l rfl).1, (h b l rfl).2, h5⟩
theorem canon_low {e k : Int} : ∀ {l : List Bk}, canon e k l → ∀ b ∈ l, e ≤ b.f ∧ rOK b.f b.t ∧ cOK b.c
  | c :: l, ⟨h1, h2, h3, _, h5⟩, b, hb => by
    rcases List.mem_cons.1 hb with rfl | hb
    · exact ⟨h3, h1, h2⟩
    · have := canon_low h5 b hb
      exact ⟨by omega, this.2⟩
theorem hold_no : ∀ {l : List Bk} {n : Int}, (∀ b ∈ l, ¬ b.has n) → holdB l n = -1
  | [], _, _ => rfl
  | b :: l, n, h => by
    rw [holdB, if_neg (h b (by simp))]
    exact hold_no fun c hc => h c (by simp [hc])
theorem hold_low {e k : Int} {l : List Bk} (h : canon e k l) {n : Int} (hn : n < e) : holdB l n = -1 :=
  hold_no fun b hb hh => by have := (canon_low h b hb).1; have := hh.1; omega
theorem hold_some : ∀ {l : List Bk} {n : Int}, holdB l n ≠ -1 → ∃ b ∈ l, b.has n ∧ holdB l n = b.c
  | [], _, h => (h rfl).elim
  | b :: l, n, h => by
    rw [holdB] at h ⊢
    split
    · rename_i hb; exact ⟨b, by simp, hb, rfl⟩
    · rename_i hb
      rw [if_neg hb] at h
      obtain ⟨c, hc, h1, h2⟩ := hold_some h
      exact ⟨c, by simp [hc], h1, h2⟩
theorem hold_in {e k : Int} {l : List Bk} (h : canon e k l) (n : Int) : holdB l n = -1 ∨ cOK (holdB l n) := by
  by_cases hn : holdB l n = -1
  · exact .inl hn
  · obtain ⟨b, hb, _, h2⟩ := hold_some hn
    rw [h2]; exact .inr (canon_low h b hb).2.2
theorem hold_out {e k : Int} {l : List Bk} (h : canon e k l) {n : Int} (hn : n < 0 ∨ 100000000 ≤ n) : holdB l n = -1 :=
  hold_no fun b hb hh => by have := (canon_low h b hb).2.1; have := hh.1; have := hh.2; omega
end Go.Proofs.YtndhglacgiidbaaGreatDoor
set_option maxRecDepth 100000
namespace Go.Proofs.YtndhglacgiidbaaGreatDoor
open Go.Vai Go Go.Proofs
open Nat (reduceEqDiff reduceMul reduceAdd reduceDiv reduceLeDiff)
open Int (reduceToNat reduceNe reduceEq reduceLT reduceLE)
def dropT : List Bk → Int → List Bk
  | [], _ => []
  | b :: l, p => if b.t ≤ p then dropT l p else b :: l
def atB (l : List Bk) (p : Int) : List Bk × Int × Int := match dropT l p with
  | [] => ([], -1, 100000000)
  | b :: l' => if p < b.f then (b :: l', -1, b.f) else (b :: l', b.c, b.t)
abbrev Pc := Int × Int × Int × Int
def pcsN : Nat → List Bk → List Bk → Int → List Pc
  | 0, _, _, _ => []
  | n + 1, a, b, p => if p ≤ 99999999 then (p, min (atB a p).2.2 (atB b p).2.2, (atB a p).2.1, (atB b p).2.1) :: pcsN n (atB a p).1 (atB b p).1 (min (atB a p).2.2 (atB b p).2.2) else []
theorem dropT_canon {e k : Int} : ∀ {l : List Bk} (p : Int), canon e k l → ∃ k', canon e k' (dropT l p)
  | [], _, h => ⟨k, h⟩
  | b :: l, p, h => by
    rw [dropT]
    split
    · obtain ⟨h1, h2, h3, h4, h5⟩ := h
      obtain ⟨k', h6⟩ := dropT_canon p h5
      exact ⟨-1, canon_mono h6 fun c l' hc => by
        rw [hc] at h6
        exact ⟨by have := h6.2.2.1; omega, fun hh => by have := h6.2.1; omega⟩⟩
    · exact ⟨k, h⟩
theorem dropT_hold : ∀ (l : List Bk) {p n : Int}, p ≤ n → holdB (dropT l p) n = holdB l n
  | [], _, _, _ => rfl
  | b :: l, p, n, h => by
    rw [dropT]
    split
    · rw [dropT_hold l h, holdB, if_neg (fun hh => by have := hh.2; omega)]
    · rfl
theorem dropT_head : ∀ (l : List Bk) {p : Int} {b : Bk} {l' : List Bk}, dropT l p = b :: l' → p < b.t
  | [], _, _, _, h => by cases h
  | c :: l, p, b, l', h => by
    rw [dropT] at h
    split at h
    · exact dropT_head l h
    · cases h; omega
theorem dropT_len : ∀ (l : List Bk) (p : Int), (dropT l p).length ≤ l.length
  | [], _ => Nat.le_refl _
  | c :: l, p => by
    rw [dropT]
    split
    · have := dropT_len l p; simp; omega
    · exact Nat.le_refl _
theorem atB_spec {e k : Int} {l : List Bk} (h : canon e k l) {p : Int} (hp : p ≤ 99999999) : (∃ k', canon e k' (atB l p).1) ∧ (∀ n, p ≤ n → holdB (atB l p).1 n = holdB l n) ∧ p < (atB l p).2.2 ∧ (atB l p).2.2 ≤ 100000000 ∧
    (∀ n, p ≤ n → n < (atB l p).2.2 → holdB l n = (atB l p).2.1) ∧ ((atB l p).2.1 = -1 ∨ cOK (atB l p).2.1) := by
  obtain ⟨k', hc⟩ := dropT_canon p h
  have hh := fun n (hn : p ≤ n) => dropT_hold l hn
  unfold atB
  cases hd : dropT l p with
  | nil =>
    rw [hd] at hh
    exact ⟨⟨k, trivial⟩, hh, by simp only; omega, by simp, fun n h1 h2 => by rw [← hh n h1]; rfl, .inl rfl⟩
  | cons b l' =>
    have ht := dropT_head l hd
    rw [hd] at hh hc
    obtain ⟨h1, h2, h3, h4, h5⟩ := hc
    dsimp only
    split
    · refine ⟨⟨k', h1, h2, h3, h4, h5⟩, hh, by simp only; omega, by simp only; omega, fun n g1 g2 => ?_, .inl rfl⟩
      have g2 : n < b.f := g2
      rw [← hh n g1, holdB, if_neg (fun hh => by have := hh.1; omega), hold_low h5 (by omega)]
    · refine ⟨⟨k', h1, h2, h3, h4, h5⟩, hh, by simp only; omega, by simp only; omega, fun n g1 g2 => ?_, .inr h2⟩
      have g2 : n < b.t := g2
      rw [← hh n g1, holdB, if_pos ⟨by omega, by omega⟩]
def lastT : Int → List Bk → Int
  | e, [] => e
  | _, b :: l => lastT b.t l
def lastC : Int → List Bk → Int
  | k, [] => k
  | _, b :: l => lastC b.c l
theorem lastT_snoc (b : Bk) : ∀ (l : List Bk) (e : Int), lastT e (l ++ [b]) = b.t
  | [], _ => rfl
  | c :: l, _ => lastT_snoc b l c.t
theorem lastC_snoc (b : Bk) : ∀ (l : List Bk) (e : Int), lastC e (l ++ [b]) = b.c
  | [], _ => rfl
  | c :: l, _ => lastC_snoc b l c.c
theorem canon_snoc (b : Bk) : ∀ (l : List Bk) (e k : Int), canon e k (l ++ [b]) ↔ canon e k l ∧ rOK b.f b.t ∧ cOK b.c ∧ lastT e l ≤ b.f ∧ ¬ (b.f = lastT e l ∧ b.c = lastC k l)
  | [], e, k => ⟨fun ⟨h1, h2, h3, h4, _⟩ => ⟨trivial, h1, h2, h3, h4⟩, fun ⟨_, h1, h2, h3, h4⟩ => ⟨h1, h2, h3, h4, trivial⟩⟩
  | c :: l, e, k => by
    have ih := canon_snoc b l c.t c.c
    constructor
    · rintro ⟨h1, h2, h3, h4, h5⟩
      have := ih.1 h5
      exact ⟨⟨h1, h2, h3, h4, this.1⟩, this.2⟩
    · rintro ⟨⟨h1, h2, h3, h4, h5⟩, h6⟩
      exact ⟨h1, h2, h3, h4, ih.2 ⟨h5, h6⟩⟩
theorem canon_last : ∀ {l : List Bk} {e k : Int}, canon e k l → e ≤ lastT e l ∧ ∀ b ∈ l, b.t ≤ lastT e l
  | [], e, _, _ => ⟨Int.le_refl e, fun _ h => by cases h⟩
  | c :: l, e, k, ⟨h1, h2, h3, h4, h5⟩ => by
    have ih := canon_last h5
    refine ⟨?_, fun b hb => ?_⟩
    · show e ≤ lastT c.t l; have := ih.1; omega
    · show b.t ≤ lastT c.t l
      rcases List.mem_cons.1 hb with rfl | hb
      · exact ih.1
      · exact ih.2 b hb
theorem hold_snoc {l : List Bk} {b : Bk} {e k : Int} (h : canon e k l) (hl : lastT e l ≤ b.f) (n : Int) : holdB (l ++ [b]) n = if b.has n then b.c else holdB l n := by
  have key : ∀ (l : List Bk), (∀ x ∈ l, x.t ≤ b.f) → holdB (l ++ [b]) n = if b.has n then b.c else holdB l n := fun l => by
    induction l with
    | nil => intro _; rfl
    | cons x l ih =>
      intro hx
      have h1 := hx x (by simp)
      rw [List.cons_append, holdB, ih fun y hy => hx y (by simp [hy])]
      by_cases hb : b.has n
      · rw [if_pos hb, if_pos hb, if_neg (fun hh => by have := hh.2; have := hb.1; omega)]
      · rw [if_neg hb, if_neg hb, holdB]
  exact key l fun x hx => by have := (canon_last h).2 x hx; omega
def cmbS (h : Int → Int → Int) (out : List Bk) (q : Pc) : List Bk :=
  if h q.2.2.1 q.2.2.2 = -1 then out
  else if 0 < out.length ∧ (gd out (out.length - 1)).t = q.1 ∧ (gd out (out.length - 1)).c = h q.2.2.1 q.2.2.2 then out.set (out.length - 1) ⟨(gd out (out.length - 1)).f, q.2.1, (gd out (out.length - 1)).c⟩
  else out ++ [⟨q.1, q.2.1, h q.2.2.1 q.2.2.2⟩]
theorem gd_getB {T : Type} [Inhabited T] (l : List T) (i : Nat) (h : i < l.length) : gd l i = l[i] := by unfold gd; simp [h]
theorem snoc_of {T : Type} [Inhabited T] {l : List T} (h : 0 < l.length) : ∃ m : List T, l = m ++ [gd l (l.length - 1)] ∧ ∀ x, l.set (l.length - 1) x = m ++ [x] := by
  have hne : l ≠ [] := fun e => by subst e; cases h
  have e : gd l (l.length - 1) = l.getLast hne := by rw [gd_getB _ _ (by omega), List.getLast_eq_getElem]
  refine ⟨l.dropLast, by rw [e, List.dropLast_concat_getLast], fun x => ?_⟩
  have := List.dropLast_concat_getLast hne
  generalize l.getLast hne = y at *
  generalize hd : l.dropLast = d at *
  subst this
  simp
structure Cmb (h : Int → Int → Int) (a b : List Bk) (p : Int) (out : List Bk) : Prop where
  can : canon 0 (-1) out
  end' : lastT 0 out ≤ p
  hold : ∀ n, holdB out n = if 0 ≤ n ∧ n < p then h (holdB a n) (holdB b n) else -1
def Hok (h : Int → Int → Int) : Prop := ∀ x y, (x = -1 ∨ cOK x) → (y = -1 ∨ cOK y) → h x y = -1 ∨ cOK (h x y)
theorem cmb_step {h : Int → Int → Int} {a b out : List Bk} {p q x y : Int} (hi : Cmb h a b p out) (h0 : 0 ≤ p) (hpq : p < q) (hq : q ≤ 100000000) (hx : ∀ n, p ≤ n → n < q → holdB a n = x ∧ holdB b n = y) (hk : h x y = -1 ∨ cOK (h x y)) :
    Cmb h a b q (cmbS h out (p, q, x, y)) := by
  unfold cmbS
  simp only
  by_cases e : h x y = -1
  · rw [if_pos e]
    refine ⟨hi.can, by have := hi.end'; omega, fun n => ?_⟩
    rw [hi.hold n]
    by_cases h1 : 0 ≤ n ∧ n < p
    · rw [if_pos h1, if_pos (by omega)]
    · rw [if_neg h1]
      by_cases h2 : 0 ≤ n ∧ n < q
      · obtain ⟨g1, g2⟩ := hx n (by omega) (by omega)
        rw [if_pos h2, g1, g2, e]
      · rw [if_neg h2]
  · rw [if_neg e]
    have hk := hk.resolve_left e
    by_cases hm : 0 < out.length ∧ (gd out (out.length - 1)).t = p ∧ (gd out (out.length - 1)).c = h x y
    · rw [if_pos hm]
      obtain ⟨m, h1, h2⟩ := snoc_of hm.1
      generalize gd out (out.length - 1) = z at *
      rw [h2]
      obtain ⟨c1, c2, c3⟩ := hi
      rw [h1] at c1 c2 c3
      obtain ⟨d1, d2, d3, d4, d5⟩ := (canon_snoc z m 0 (-1)).1 c1
      refine ⟨(canon_snoc _ m 0 (-1)).2 ⟨d1, ⟨d2.1, by simp only; omega, by simp only; omega⟩, d3, d4, d5⟩, by rw [lastT_snoc]; exact Int.le_refl _, fun n => ?_⟩
      have c3 := c3 n
      rw [hold_snoc d1 d4] at c3
      rw [hold_snoc d1 (by exact d4)]
      by_cases hz : Bk.has ⟨z.f, q, z.c⟩ n
      · rw [if_pos hz]
        have hz1 : z.f ≤ n := hz.1
        have hz2 : n < q := hz.2
        rw [if_pos (by omega)]
        simp only
        by_cases hn : n < p
        · rw [if_pos ⟨hz1, by omega⟩, if_pos (by omega)] at c3; exact c3
        · obtain ⟨g1, g2⟩ := hx n (by omega) hz2
          rw [hm.2.2, g1, g2]
      · rw [if_neg hz]
        have hz' : ¬ z.has n := fun hh => hz ⟨hh.1, by have : n < z.t := hh.2; show n < q; omega⟩
        rw [if_neg hz'] at c3
        rw [c3]
        by_cases hn : 0 ≤ n ∧ n < p
        · rw [if_pos hn, if_pos (by omega)]
        · rw [if_neg hn]
          by_cases hn2 : 0 ≤ n ∧ n < q
          · exact (hz ⟨by show z.f ≤ n; omega, hn2.2⟩).elim
          · rw [if_neg hn2]
    · rw [if_neg hm]
      have hl : lastT 0 out ≤ p := hi.end'
      refine ⟨(canon_snoc _ out 0 (-1)).2 ⟨hi.can, ⟨h0, hpq, hq⟩, hk, hl, fun hh => ?_⟩, by rw [lastT_snoc]; exact Int.le_refl _, fun n => ?_⟩
      · simp only at hh
        by_cases hl0 : 0 < out.length
        · obtain ⟨m, h1, _⟩ := snoc_of hl0
          have e1 := hh.1; have e2 := hh.2
          generalize hz : gd out (out.length - 1) = z at *
          rw [h1, lastT_snoc] at e1
          rw [h1, lastC_snoc] at e2
          exact hm ⟨hl0, e1.symm, e2.symm⟩
        · have : out = [] := List.eq_nil_of_length_eq_zero (by omega)
          rw [this] at hh
          have : h x y = -1 := hh.2
          omega
      · rw [hold_snoc hi.can hl, hi.hold n]
        by_cases hz : Bk.has ⟨p, q, h x y⟩ n
        · have h1 : p ≤ n := hz.1
          have h2 : n < q := hz.2
          obtain ⟨g1, g2⟩ := hx n h1 h2
          rw [if_pos hz, if_pos (by omega), g1, g2]
        · rw [if_neg hz]
          by_cases hn : 0 ≤ n ∧ n < p
          · rw [if_pos hn, if_pos (by omega)]
          · rw [if_neg hn]
            by_cases hn2 : 0 ≤ n ∧ n < q
            · exact (hz ⟨by show p ≤ n; omega, hn2.2⟩).elim
            · rw [if_neg hn2]
theorem cmb_fold {h : Int → Int → Int} (hh : Hok h) (a b : List Bk) (hea : ∀ n, holdB a n = -1 ∨ cOK (holdB a n)) (heb : ∀ n, holdB b n = -1 ∨ cOK (holdB b n)) : ∀ (n : Nat) {e k k' : Int} {a' b' out : List Bk} {p : Int}, canon e k a' → canon e k' b' → (∀ n, p ≤ n → holdB a' n = holdB a n) → (∀ n, p ≤ n → holdB b' n = holdB b n) → 0 ≤ p → p ≤ 100000000 → 100000000 - p ≤ n →
    Cmb h a b p out → Cmb h a b 100000000 ((pcsN n a' b' p).foldl (cmbS h) out)
  | 0, e, k, k', a', b', out, p, _, _, _, _, _, hp, hn, hi => by
    obtain rfl : p = 100000000 := by omega
    exact hi
  | n + 1, e, k, k', a', b', out, p, ha, hb, hea', heb', h0, hp, hn, hi => by
    rw [pcsN]
    split
    · rename_i hp9
      obtain ⟨⟨ka, a1⟩, a2, a3, a4, a5, a6⟩ := atB_spec ha hp9
      obtain ⟨⟨kb, b1⟩, b2, b3, b4, b5, b6⟩ := atB_spec hb hp9
      rw [List.foldl_cons]
      generalize atB a' p = A at *
      generalize atB b' p = B at *
      refine cmb_fold hh a b hea heb n a1 b1 (fun n hn => ?_) (fun n hn => ?_) (by omega) (by omega) (by omega) (cmb_step hi h0 (by omega) (by omega) (fun n h1 h2 => ⟨?_, ?_⟩) (hh _ _ a6 b6))
      · rw [a2 n (by omega), hea' n (by omega)]
      · rw [b2 n (by omega), heb' n (by omega)]
      · rw [← hea' n h1, a5 n h1 (by omega)]
      · rw [← heb' n h1, b5 n h1 (by omega)]
    · obtain rfl : p = 100000000 := by omega
      exact hi
def cmbF (h : Int → Int → Int) (a b : List Bk) : List Bk := (pcsN 100000000 a b 0).foldl (cmbS h) []
theorem cmbF_spec {h : Int → Int → Int} (hh : Hok h) {a b : List Bk} {k k' : Int} (ha : canon 0 k a) (hb : canon 0 k' b) :
    canon 0 (-1) (cmbF h a b) ∧ ∀ n, holdB (cmbF h a b) n = if 0 ≤ n ∧ n < 100000000 then h (holdB a n) (holdB b n) else -1 := by
  have := cmb_fold hh a b (hold_in ha) (hold_in hb) 100000000 (p := 0) (out := []) ha hb (fun _ _ => rfl) (fun _ _ => rfl) (by omega) (by omega) (by omega) ⟨trivial, Int.le_refl _, fun n => by rw [if_neg (by omega)]; rfl⟩
  exact ⟨this.can, this.hold⟩
end Go.Proofs.YtndhglacgiidbaaGreatDoor
set_option maxRecDepth 100000
namespace Go.Proofs.YtndhglacgiidbaaGreatDoor
open Go.Vai Go Go.Proofs
open Nat (reduceEqDiff reduceMul reduceAdd reduceDiv reduceLeDiff)
open Int (reduceToNat reduceNe reduceEq reduceLT reduceLE)
structure Up where
  f : Int
  t : Int
  c : Int
  a : Int
  deriving DecidableEq
instance : Inhabited Up := ⟨⟨0, 0, 0, 0⟩⟩
def Up.has (u : Up) (n : Int) : Prop := u.f ≤ n ∧ n < u.t
instance (u : Up) (n : Int) : Decidable (u.has n) := inferInstanceAs (Decidable (_ ∧ _))
def validB (l : List Bk) : Bool := decide (l.length ≤ 40) && decide (canon 0 (-1) l)
theorem validB_iff {l : List Bk} : validB l = true ↔ l.length ≤ 40 ∧ canon 0 (-1) l := by simp [validB]
def overF (x y : Int) : Int := if y ≠ -1 then y else x
def awayF (x y : Int) : Int := if y = -1 then x else -1
theorem over_ok : Hok overF := fun x y hx hy => by
  unfold overF; split
  · exact hy
  · exact hx
theorem away_ok : Hok awayF := fun x y hx hy => by
  unfold awayF; split
  · exact hx
  · exact .inl rfl
def lim (o : List Bk) : Option (List Bk) := if o.length ≤ 40 then some o else none
def giveF (m : List Bk) (f t c : Int) : Option (List Bk) := if validB m = true ∧ rOK f t ∧ cOK c then lim (cmbF overF m [⟨f, t, c⟩]) else none
def takeF (m : List Bk) (f t : Int) : Option (List Bk) := if validB m = true ∧ rOK f t then lim (cmbF awayF m [⟨f, t, 0⟩]) else none
def stepU (m : List Bk) (u : Up) : Option (List Bk) := if u.c = -1 then takeF m u.f u.t else giveF m u.f u.t u.c
theorem one_canon {f t c : Int} (h : rOK f t) (hc : cOK c) : canon 0 (-1) [⟨f, t, c⟩] := ⟨h, hc, h.1, fun hh => by have : c = -1 := hh.2; omega, trivial⟩
theorem one_hold (f t c n : Int) : holdB [⟨f, t, c⟩] n = if f ≤ n ∧ n < t then c else -1 := rfl
theorem give_hold {m : List Bk} {f t c : Int} (hm : canon 0 (-1) m) (h : rOK f t) (hc : cOK c) : canon 0 (-1) (cmbF overF m [⟨f, t, c⟩]) ∧ ∀ n, holdB (cmbF overF m [⟨f, t, c⟩]) n = if f ≤ n ∧ n < t then c else holdB m n := by
  obtain ⟨h1, h2⟩ := cmbF_spec over_ok hm (one_canon h hc)
  refine ⟨h1, fun n => ?_⟩
  rw [h2, one_hold]
  by_cases hn : 0 ≤ n ∧ n < 100000000
  · rw [if_pos hn]
    unfold overF
    by_cases hr : f ≤ n ∧ n < t
    · rw [if_pos hr, if_pos hr, if_pos (by omega)]
    · rw [if_neg hr, if_neg hr, if_neg (by omega)]
  · rw [if_neg hn, if_neg (by omega), hold_out hm (by omega)]
theorem take_hold {m : List Bk} {f t : Int} (hm : canon 0 (-1) m) (h : rOK f t) : canon 0 (-1) (cmbF awayF m [⟨f, t, 0⟩]) ∧ ∀ n, holdB (cmbF awayF m [⟨f, t, 0⟩]) n = if f ≤ n ∧ n < t then -1 else holdB m n := by
  obtain ⟨h1, h2⟩ := cmbF_spec away_ok hm (one_canon (c := 0) h ⟨by omega, by omega⟩)
  refine ⟨h1, fun n => ?_⟩
  rw [h2, one_hold]
  by_cases hn : 0 ≤ n ∧ n < 100000000
  · rw [if_pos hn]
    unfold awayF
    by_cases hr : f ≤ n ∧ n < t
    · rw [if_pos hr, if_pos hr, if_neg (by omega)]
    · rw [if_neg hr, if_neg hr, if_pos rfl]
  · rw [if_neg hn, if_neg (by omega), hold_out hm (by omega)]
theorem step_spec {m m' : List Bk} {u : Up} (h : stepU m u = some m') : validB m = true ∧ validB m' = true ∧ rOK u.f u.t ∧ (u.c = -1 ∨ cOK u.c) ∧ ∀ n, holdB m' n = if u.has n then u.c else holdB m n := by
  unfold stepU at h
  split at h
  · rename_i hc
    unfold takeF lim at h
    split at h
    · rename_i hv
      split at h
      · rename_i hl
        cases h
        obtain ⟨h1, h2⟩ := take_hold (validB_iff.1 hv.1).2 hv.2
        exact ⟨hv.1, validB_iff.2 ⟨hl, h1⟩, hv.2, .inl hc, fun n => by rw [h2, hc]; rfl⟩
      · cases h
    · cases h
  · unfold giveF lim at h
    split at h
    · rename_i hv
      split at h
      · rename_i hl
        cases h
        obtain ⟨h1, h2⟩ := give_hold (validB_iff.1 hv.1).2 hv.2.1 hv.2.2
        exact ⟨hv.1, validB_iff.2 ⟨hl, h1⟩, hv.2.1, .inr hv.2.2, fun n => by rw [h2]; rfl⟩
      · cases h
    · cases h
def mapsF : List Bk → List Up → List (List Bk)
  | m, [] => [m]
  | m, u :: l => m :: (match stepU m u with | none => [] | some m' => mapsF m' l)
theorem mapsF_pos (m : List Bk) (l : List Up) : 0 < (mapsF m l).length := by cases l <;> simp [mapsF]
theorem mapsF_zero (m : List Bk) (l : List Up) : gd (mapsF m l) 0 = m := by cases l <;> simp [mapsF]
theorem mapsF_step : ∀ (l : List Up) (m : List Bk) (i : Nat), i + 1 < (mapsF m l).length → i < l.length ∧ stepU (gd (mapsF m l) i) (gd l i) = some (gd (mapsF m l) (i + 1))
  | [], _, _, h => by simp [mapsF] at h
  | u :: l, m, i, h => by
    rw [mapsF] at h ⊢
    cases hs : stepU m u with
    | none => rw [hs] at h; simp at h
    | some m' =>
      rw [hs] at h
      simp only [List.length_cons] at h ⊢
      cases i with
      | zero => simp only [gd_cons_zero, gd_cons_succ]; rw [mapsF_zero]; exact ⟨by omega, hs⟩
      | succ i =>
        obtain ⟨h1, h2⟩ := mapsF_step l m' i (by omega)
        simp only [gd_cons_succ]
        exact ⟨by omega, h2⟩
def heldL (l : List Up) (n : Int) : Int := l.foldl (fun w u => if u.has n then u.c else w) (-1)
theorem heldL_snoc (l : List Up) (u : Up) (n : Int) : heldL (l ++ [u]) n = if u.has n then u.c else heldL l n := by simp [heldL]
theorem take_succ' {T : Type} [Inhabited T] (l : List T) (i : Nat) (h : i < l.length) : l.take (i + 1) = l.take i ++ [gd l i] := by rw [List.take_add_one, gd_some l i h]; rfl
theorem mapsF_spec (l : List Up) : ∀ i, i < (mapsF [] l).length → i ≤ l.length ∧ validB (gd (mapsF [] l) i) = true ∧ ∀ n, holdB (gd (mapsF [] l) i) n = heldL (l.take i) n
  | 0, _ => by rw [mapsF_zero]; exact ⟨Nat.zero_le _, rfl, fun _ => rfl⟩
  | i + 1, h => by
    obtain ⟨h1, h2⟩ := mapsF_step l [] i h
    obtain ⟨_, h3, _, _, h4⟩ := step_spec h2
    obtain ⟨_, _, h5⟩ := mapsF_spec l i (by omega)
    refine ⟨by omega, h3, fun n => ?_⟩
    rw [h4, take_succ' l i h1, heldL_snoc, h5]
def timesB : Int → List Up → Bool
  | _, [] => true
  | e, u :: l => decide (e ≤ u.a ∧ u.a ≤ 10000000) && (decide (-1 ≤ u.c) && timesB u.a l)
def validT (l : List Up) : Bool := decide (l.length ≤ 40) && (timesB 0 l && decide ((mapsF [] l).length = l.length + 1))
theorem validT_iff {l : List Up} : validT l = true ↔ l.length ≤ 40 ∧ timesB 0 l = true ∧ (mapsF [] l).length = l.length + 1 := by simp [validT]
def mapV (l : List Up) (v : Nat) : List Bk := gd (mapsF [] l) v
theorem mapV_spec {l : List Up} (h : validT l = true) {v : Nat} (hv : v ≤ l.length) : validB (mapV l v) = true ∧ ∀ n, holdB (mapV l v) n = heldL (l.take v) n :=
  (mapsF_spec l v (by have := (validT_iff.1 h).2.2; omega)).2
theorem timesB_mono : ∀ {l : List Up} {e : Int}, timesB e l = true → (∀ i, i < l.length → e ≤ (gd l i).a ∧ (gd l i).a ≤ 10000000 ∧ -1 ≤ (gd l i).c) ∧ ∀ i j, i ≤ j → j < l.length → (gd l i).a ≤ (gd l j).a
  | [], _, _ => ⟨(fun _ h => by cases h), (fun _ _ _ h => by cases h)⟩
  | u :: l, e, h => by
    simp only [timesB, Bool.and_eq_true, decide_eq_true_eq] at h
    obtain ⟨h1, h2⟩ := timesB_mono h.2.2
    refine ⟨fun i hi => ?_, fun i j hij hj => ?_⟩
    · cases i with
      | zero => simp only [gd_cons_zero]; omega
      | succ i => simp only [gd_cons_succ]; have := h1 i (by simpa using hi); omega
    · cases j with
      | zero => obtain rfl : i = 0 := by omega
                exact Int.le_refl _
      | succ j =>
        cases i with
        | zero => simp only [gd_cons_zero, gd_cons_succ]; exact (h1 j (by simpa using hj)).1
        | succ i => simp only [gd_cons_succ]; exact h2 i j (by omega) (by simpa using hj)
end Go.Proofs.YtndhglacgiidbaaGreatDoor
set_option maxRecDepth 100000
namespace Go.Proofs.YtndhglacgiidbaaGreatDoor
open Go.Vai Go Go.Proofs
open Nat (reduceEqDiff reduceMul reduceAdd reduceDiv reduceLeDiff)
open Int (reduceToNat reduceNe reduceEq reduceLT reduceLE)
theorem nodup_le {T : Type} [DecidableEq T] : ∀ (l m : List T), l.Nodup → (∀ x ∈ l, x ∈ m) → l.length ≤ m.length
  | [], _, _, _ => Nat.zero_le _
  | x :: l, m, h, hs => by
    rw [List.nodup_cons] at h
    have ih := nodup_le l (m.erase x) h.2 fun y hy => by
      have hne : y ≠ x := fun e => h.1 (e ▸ hy)
      exact (List.mem_erase_of_ne hne).2 (hs y (by simp [hy]))
    have hx := hs x (by simp)
    have := List.length_erase_of_mem hx
    have := List.length_pos_of_mem hx
    simp; omega
theorem canon_nodup : ∀ {l : List Bk} {e k : Int}, canon e k l → (l.map Bk.f).Nodup
  | [], _, _, _ => List.nodup_nil
  | b :: l, e, k, ⟨h1, h2, h3, h4, h5⟩ => by
    rw [List.map_cons, List.nodup_cons]
    refine ⟨fun hm => ?_, canon_nodup h5⟩
    obtain ⟨c, hc, he⟩ := List.mem_map.1 hm
    have := (canon_low h5 c hc).1
    omega
theorem hold_at : ∀ {l : List Bk} {e k : Int}, canon e k l → ∀ b ∈ l, ∀ n, b.has n → holdB l n = b.c
  | c :: l, e, k, ⟨h1, h2, h3, h4, h5⟩, b, hb, n, hn => by
    rcases List.mem_cons.1 hb with rfl | hb
    · rw [holdB, if_pos hn]
    · have := (canon_low h5 b hb).1
      rw [holdB, if_neg (fun hh => by have := hh.2; have := hn.1; omega)]
      exact hold_at h5 b hb n hn
theorem hold_start : ∀ {l : List Bk} {e k : Int}, canon e k l → ∀ b ∈ l, holdB l (b.f - 1) ≠ b.c ∨ (b.f = e)
  | c :: l, e, k, ⟨h1, h2, h3, h4, h5⟩, b, hb => by
    rcases List.mem_cons.1 hb with rfl | hb
    · by_cases he : b.f = e
      · exact .inr he
      · refine .inl ?_
        rw [holdB, if_neg (fun hh => by have := hh.1; omega), hold_low h5 (by omega)]; omega
    · have hlo := canon_low h5 b hb
      refine .inl ?_
      have hcb : canon c.t c.c l := h5
      rw [holdB]
      split
      · rename_i hh
        have hbt : b.f = c.t := by have := hh.2; omega
        -- b is the first one behind c
        cases l with
        | nil => cases hb
        | cons d l =>
          obtain ⟨d1, d2, d3, d4, d5⟩ := h5
          rcases List.mem_cons.1 hb with rfl | hb
          · exact fun e => d4 ⟨hbt, e.symm⟩
          · have := (canon_low d5 b hb).1; omega
      · rename_i hh
        have := hold_start h5 b hb
        rcases this with h | h
        · exact h
        · exfalso; exact hh ⟨by omega, by omega⟩
theorem canon_start {l : List Bk} (h : canon 0 (-1) l) {b : Bk} (hb : b ∈ l) : holdB l (b.f - 1) ≠ b.c := by
  have hl := canon_low h b hb
  rcases hold_start h b hb with h1 | h1
  · exact h1
  · rw [hold_out h (by omega)]; omega
theorem lay_len {m o : List Bk} {f t c : Int} (hm : canon 0 (-1) m) (ho : canon 0 (-1) o) (h : ∀ n, holdB o n = if f ≤ n ∧ n < t then c else holdB m n) : o.length ≤ m.length + 2 := by
  have := nodup_le (o.map Bk.f) (f :: t :: m.map Bk.f) (canon_nodup ho) fun x hx => by
    obtain ⟨b, hb, rfl⟩ := List.mem_map.1 hx
    have hlo := canon_low ho b hb
    have h1 := canon_start ho hb
    have h2 := hold_at ho b hb b.f ⟨by omega, by omega⟩
    by_cases e1 : b.f = f
    · simp [e1]
    by_cases e2 : b.f = t
    · simp [e2]
    refine List.mem_cons_of_mem _ (List.mem_cons_of_mem _ ?_)
    rw [h] at h1 h2
    by_cases hr : f ≤ b.f ∧ b.f < t
    · rw [if_pos hr] at h2
      rw [if_pos (by omega)] at h1
      exact (h1 h2).elim
    · rw [if_neg hr] at h2
      rw [if_neg (by omega)] at h1
      obtain ⟨y, hy, g1, g2⟩ := hold_some (l := m) (n := b.f) (by omega)
      by_cases hy1 : y.f = b.f
      · exact List.mem_map.2 ⟨y, hy, hy1⟩
      · have := hold_at hm y hy (b.f - 1) ⟨by have := g1.1; omega, by have := g1.2; omega⟩
        exact (h1 (by omega)).elim
  simpa using this
theorem step_some {m : List Bk} {u : Up} (hm : validB m = true) (hl : m.length ≤ 38) (hr : rOK u.f u.t) (hc : u.c = -1 ∨ cOK u.c) : ∃ m', stepU m u = some m' ∧ m'.length ≤ m.length + 2 := by
  have hcm := (validB_iff.1 hm).2
  unfold stepU
  by_cases h : u.c = -1
  · rw [if_pos h]
    unfold takeF lim
    obtain ⟨h1, h2⟩ := take_hold hcm hr
    have := lay_len hcm h1 h2
    rw [if_pos ⟨hm, hr⟩, if_pos (by omega)]
    exact ⟨_, rfl, this⟩
  · have hc := hc.resolve_left h
    rw [if_neg h]
    unfold giveF lim
    obtain ⟨h1, h2⟩ := give_hold hcm hr hc
    have := lay_len hcm h1 h2
    rw [if_pos ⟨hm, hr, hc⟩, if_pos (by omega)]
    exact ⟨_, rfl, this⟩
theorem mapsF_all : ∀ (l : List Up) (m : List Bk), validB m = true → m.length + 2 * l.length ≤ 40 → (∀ i, i < l.length → rOK (gd l i).f (gd l i).t ∧ ((gd l i).c = -1 ∨ cOK (gd l i).c)) → (mapsF m l).length = l.length + 1
  | [], _, _, _, _ => rfl
  | u :: l, m, hm, hl, h => by
    have h0 := h 0 (by simp)
    rw [gd_cons_zero] at h0
    simp only [List.length_cons] at hl
    obtain ⟨m', h1, h2⟩ := step_some hm (by omega) h0.1 h0.2
    have hm' := (step_spec h1).2.1
    rw [mapsF, h1]
    have := mapsF_all l m' hm' (by omega) fun i hi => by have := h (i + 1) (by simp; omega); rwa [gd_cons_succ] at this
    simp [this]
end Go.Proofs.YtndhglacgiidbaaGreatDoor
set_option maxRecDepth 100000
namespace Go.Proofs.YtndhglacgiidbaaGreatDoor
open Go.Vai Go Go.Proofs
open Nat (reduceEqDiff reduceMul reduceAdd reduceDiv reduceLeDiff)
open Int (reduceToNat reduceNe reduceEq reduceLT reduceLE)
abbrev Rg := Int × Int
def atF : List Up → Int → Nat
  | [], _ => 0
  | u :: l, t => if u.a ≤ t then atF l t + 1 else 0
theorem atF_le : ∀ (l : List Up) (t : Int), atF l t ≤ l.length
  | [], _ => Nat.le_refl _
  | u :: l, t => by
    rw [atF]
    split
    · have := atF_le l t; simp; omega
    · exact Nat.zero_le _
theorem atF_lt : ∀ (l : List Up) (t : Int) (i : Nat), i < atF l t → (gd l i).a ≤ t
  | [], _, _, h => by cases h
  | u :: l, t, i, h => by
    rw [atF] at h
    split at h
    · rename_i hu
      cases i with
      | zero => exact hu
      | succ i => rw [gd_cons_succ]; exact atF_lt l t i (by omega)
    · cases h
theorem atF_ge {l : List Up} {e : Int} (hl : timesB e l = true) (t : Int) {i : Nat} (h : atF l t ≤ i) (hi : i < l.length) : t < (gd l i).a := by
  have hs := (timesB_mono hl).2
  have key : ∀ (l : List Up) (t : Int), atF l t < l.length → t < (gd l (atF l t)).a := fun l t => by
    induction l with
    | nil => intro h; cases h
    | cons u l ih =>
      rw [atF]
      split
      · intro h; rw [gd_cons_succ]; exact ih (by simpa using h)
      · intro _; rw [gd_cons_zero]; omega
  have := key l t (by omega)
  have := hs _ _ h hi
  omega
theorem atF_mono (l : List Up) {s t : Int} (h : s ≤ t) : atF l s ≤ atF l t := by
  induction l with
  | nil => exact Nat.le_refl _
  | cons u l ih =>
    rw [atF, atF]
    split
    · rw [if_pos (by omega)]; omega
    · exact Nat.zero_le _
def heldV (l : List Up) (n : Int) (v : Nat) : Int := heldL (l.take v) n
theorem heldV_map {l : List Up} (h : validT l = true) {v : Nat} (hv : v ≤ l.length) (n : Int) : holdB (mapV l v) n = heldV l n v := (mapV_spec h hv).2 n
theorem heldV_in {l : List Up} (h : validT l = true) (n : Int) {v : Nat} (hv : v ≤ l.length) : heldV l n v = -1 ∨ cOK (heldV l n v) := by
  rw [← heldV_map h hv]
  exact hold_in (validB_iff.1 (mapV_spec h hv).1).2 n
def anyV (l : List Up) (n : Int) (a b : Nat) (c : Int) : Bool := (List.range' a (b + 1 - a)).any fun v => decide (heldV l n v = c)
theorem anyV_iff {l : List Up} {n : Int} {a b : Nat} {c : Int} : anyV l n a b c = true ↔ ∃ v, a ≤ v ∧ v ≤ b ∧ heldV l n v = c := by
  unfold anyV
  rw [List.any_eq_true]
  constructor
  · rintro ⟨v, hv, h⟩
    rw [List.mem_range'_1] at hv
    exact ⟨v, hv.1, by omega, by simpa using h⟩
  · rintro ⟨v, h1, h2, h3⟩
    exact ⟨v, List.mem_range'_1.2 ⟨h1, by omega⟩, by simpa using h3⟩
def crs : List Int := [-1, 0, 1, 2, 3, 4, 5, 6, 7]
def betF (l : List Up) (n : Int) (a b : Nat) : List Int := crs.filter (anyV l n a b)
end Go.Proofs.YtndhglacgiidbaaGreatDoor
set_option maxRecDepth 100000
namespace Go.Proofs.YtndhglacgiidbaaGreatDoor
open Go.Vai Go Go.Proofs
open Nat (reduceEqDiff reduceMul reduceAdd reduceDiv reduceLeDiff)
open Int (reduceToNat reduceNe reduceEq reduceLT reduceLE)
def pickF (c n : Int) : Int := if c < 0 then (-(c + 1)).tmod n else c.tmod n
theorem pickF_in {c n : Int} (hn : 0 < n) : 0 ≤ pickF c n ∧ pickF c n < n := by
  unfold pickF
  split
  · exact ⟨Int.tmod_nonneg _ (by omega), Int.tmod_lt_of_pos _ hn⟩
  · exact ⟨Int.tmod_nonneg _ (by omega), Int.tmod_lt_of_pos _ hn⟩
structure Q4 where
  a : Int
  b : Int
  c : Int
  d : Int
instance : Inhabited Q4 := ⟨⟨0, 0, 0, 0⟩⟩
end Go.Proofs.YtndhglacgiidbaaGreatDoor
set_option maxRecDepth 100000
namespace Go.Proofs.YtndhglacgiidbaaGreatDoor
open Go.Vai Go Go.Proofs
open Nat (reduceEqDiff reduceMul reduceAdd reduceDiv reduceLeDiff)
open Int (reduceToNat reduceNe reduceEq reduceLT reduceLE)
def Asc : List Int → Prop
  | [] => True
  | [_] => True
  | x :: y :: l => x < y ∧ Asc (y :: l)
theorem asc_tail {x : Int} : ∀ {l : List Int}, Asc (x :: l) → Asc l
  | [], _ => trivial
  | _ :: _, h => h.2
theorem asc_low {x : Int} : ∀ {l : List Int}, Asc (x :: l) → ∀ y ∈ l, x < y
  | [], _, _, h => by cases h
  | z :: l, h, y, hy => by
    rcases List.mem_cons.1 hy with rfl | hy
    · exact h.1
    · have := asc_low h.2 y hy; have := h.1; omega
end Go.Proofs.YtndhglacgiidbaaGreatDoor
set_option maxRecDepth 100000
namespace Go.Proofs.YtndhglacgiidbaaGreatDoor
open Go.Vai Go Go.Proofs
open Nat (reduceEqDiff reduceMul reduceAdd reduceDiv reduceLeDiff)
open Int (reduceToNat reduceNe reduceEq reduceLT reduceLE)
def insRev : List Int → Int → List Int
  | [], x => [x]
  | a :: r, x => if x < a then a :: insRev r x else x :: a :: r
def sortF (l : List Int) : List Int := (l.foldl insRev []).reverse
def Desc : List Int → Prop
  | [] => True
  | [_] => True
  | x :: y :: l => y ≤ x ∧ Desc (y :: l)
theorem insRev_mem (x y : Int) : ∀ r : List Int, y ∈ insRev r x ↔ y = x ∨ y ∈ r
  | [] => by simp [insRev]
  | a :: r => by
    rw [insRev]
    split
    · rw [List.mem_cons, insRev_mem x y r, List.mem_cons]
      constructor
      · rintro (h | h | h)
        · exact .inr (.inl h)
        · exact .inl h
        · exact .inr (.inr h)
      · rintro (h | h | h)
        · exact .inr (.inl h)
        · exact .inl h
        · exact .inr (.inr h)
    · rw [List.mem_cons]
theorem insRev_length (x : Int) : ∀ r : List Int, (insRev r x).length = r.length + 1
  | [] => rfl
  | a :: r => by
    rw [insRev]
    split
    · rw [List.length_cons, insRev_length x r, List.length_cons]
    · rfl
theorem insRev_desc (x : Int) : ∀ r : List Int, Desc r → Desc (insRev r x)
  | [], _ => trivial
  | [a], _ => by
    rw [insRev]
    split
    · exact ⟨by omega, trivial⟩
    · exact ⟨by omega, trivial⟩
  | a :: b :: r, h => by
    have ih := insRev_desc x (b :: r) h.2
    rw [insRev]
    split
    · rename_i hx
      rw [insRev] at ih ⊢
      split
      · rename_i hb; rw [if_pos hb] at ih; exact ⟨h.1, ih⟩
      · rename_i hb; rw [if_neg hb] at ih; exact ⟨by omega, ih⟩
    · exact ⟨by omega, h⟩
theorem sort_fold : ∀ (l r : List Int), Desc r → Desc (l.foldl insRev r) ∧ (∀ y, y ∈ l.foldl insRev r ↔ y ∈ l ∨ y ∈ r) ∧ (l.foldl insRev r).length = l.length + r.length
  | [], r, h => ⟨h, fun y => by simp, by simp⟩
  | x :: l, r, h => by
    obtain ⟨h1, h2, h3⟩ := sort_fold l (insRev r x) (insRev_desc x r h)
    refine ⟨h1, fun y => ?_, by rw [List.foldl_cons, h3, insRev_length]; simp; omega⟩
    rw [List.foldl_cons, h2, insRev_mem, List.mem_cons]
    constructor
    · rintro (h | h | h)
      · exact .inl (.inr h)
      · exact .inl (.inl h)
      · exact .inr h
    · rintro ((h | h) | h)
      · exact .inr (.inl h)
      · exact .inl h
      · exact .inr (.inr h)
theorem sortF_length (l : List Int) : (sortF l).length = l.length := by unfold sortF; rw [List.length_reverse, (sort_fold l [] trivial).2.2]; simp
theorem sortF_mem (l : List Int) (y : Int) : y ∈ sortF l ↔ y ∈ l := by unfold sortF; rw [List.mem_reverse, (sort_fold l [] trivial).2.1]; simp
theorem desc_low {x : Int} : ∀ {l : List Int}, Desc (x :: l) → ∀ y ∈ l, y ≤ x
  | [], _, _, h => by cases h
  | z :: l, h, y, hy => by
    rcases List.mem_cons.1 hy with rfl | hy
    · exact h.1
    · have := desc_low h.2 y hy; have := h.1; omega
theorem desc_tail {x : Int} : ∀ {l : List Int}, Desc (x :: l) → Desc l
  | [], _ => trivial
  | _ :: _, h => h.2
theorem asc_snoc : ∀ (l : List Int) (x : Int), Asc l → (∀ y ∈ l, y < x) → Asc (l ++ [x])
  | [], _, _, _ => trivial
  | [a], x, _, h => ⟨h a (by simp), trivial⟩
  | a :: b :: l, x, h, hx => ⟨h.1, asc_snoc (b :: l) x h.2 fun y hy => hx y (by simp [hy])⟩
theorem desc_asc : ∀ (l : List Int), Desc l → l.Nodup → Asc l.reverse
  | [], _, _ => trivial
  | x :: l, h, hn => by
    rw [List.nodup_cons] at hn
    rw [List.reverse_cons]
    refine asc_snoc _ x (desc_asc l (desc_tail h) hn.2) fun y hy => ?_
    have hy := List.mem_reverse.1 hy
    have := desc_low h y hy
    have : y ≠ x := fun e => hn.1 (e ▸ hy)
    omega
theorem insRev_nodup (x : Int) : ∀ r : List Int, r.Nodup → x ∉ r → (insRev r x).Nodup
  | [], _, _ => by simp [insRev]
  | a :: r, h, hx => by
    rw [insRev]
    split
    · rw [List.nodup_cons] at h ⊢
      refine ⟨fun hm => ?_, insRev_nodup x r h.2 fun hm => hx (by simp [hm])⟩
      rcases (insRev_mem x a r).1 hm with e | hm
      · exact hx (by simp [e])
      · exact h.1 hm
    · exact List.nodup_cons.2 ⟨hx, h⟩
theorem fold_nodup : ∀ (l r : List Int), r.Nodup → l.Nodup → (∀ x ∈ l, x ∉ r) → (l.foldl insRev r).Nodup
  | [], _, h, _, _ => h
  | x :: l, r, hr, hl, hx => by
    rw [List.nodup_cons] at hl
    refine fold_nodup l _ (insRev_nodup x r hr (hx x (by simp))) hl.2 fun y hy hm => ?_
    rcases (insRev_mem x y r).1 hm with e | hm
    · exact hl.1 (e ▸ hy)
    · exact hx y (by simp [hy]) hm
theorem sortF_asc {l : List Int} (h : l.Nodup) : Asc (sortF l) := desc_asc _ (sort_fold l [] trivial).1 (fold_nodup l [] List.nodup_nil h fun _ _ h => by cases h)
theorem asc_ext : ∀ {l m : List Int}, Asc l → Asc m → (∀ x, x ∈ l ↔ x ∈ m) → l = m
  | [], [], _, _, _ => rfl
  | [], y :: m, _, _, h => by have := (h y).2 (by simp); cases this
  | x :: l, [], _, _, h => by have := (h x).1 (by simp); cases this
  | x :: l, y :: m, hl, hm, h => by
    have h1 := asc_low hl
    have h2 := asc_low hm
    have e : x = y := by
      rcases List.mem_cons.1 ((h x).1 (by simp)) with e | hx
      · exact e
      · rcases List.mem_cons.1 ((h y).2 (by simp)) with e | hy
        · exact e.symm
        · have := h1 y hy; have := h2 x hx; omega
    subst e
    congr 1
    refine asc_ext (asc_tail hl) (asc_tail hm) fun z => ?_
    constructor
    · intro hz
      rcases List.mem_cons.1 ((h z).1 (by simp [hz])) with e | hz'
      · have := h1 z hz; omega
      · exact hz'
    · intro hz
      rcases List.mem_cons.1 ((h z).2 (by simp [hz])) with e | hz'
      · have := h2 z hz; omega
      · exact hz'
theorem asc_filter (p : Int → Bool) : ∀ {l : List Int}, Asc l → Asc (l.filter p)
  | [], _ => trivial
  | x :: l, h => by
    have ih := asc_filter p (asc_tail h)
    by_cases hp : p x = true
    · rw [List.filter_cons_of_pos hp]
      cases hf : l.filter p with
      | nil => trivial
      | cons y m =>
        rw [hf] at ih
        exact ⟨asc_low h y (List.mem_filter.1 (show y ∈ l.filter p by rw [hf]; simp)).1, ih⟩
    · rw [List.filter_cons_of_neg hp]; exact ih
theorem betF_asc (l : List Up) (n : Int) (a b : Nat) : Asc (betF l n a b) := asc_filter _ (by simp [crs, Asc])
theorem betF_mem {l : List Up} (hv : validT l = true) {n : Int} {a b : Nat} (hb : b ≤ l.length) (c : Int) : c ∈ betF l n a b ↔ ∃ v, a ≤ v ∧ v ≤ b ∧ heldV l n v = c := by
  unfold betF
  rw [List.mem_filter, anyV_iff]
  constructor
  · exact fun h => h.2
  · rintro ⟨v, h1, h2, h3⟩
    refine ⟨?_, v, h1, h2, h3⟩
    have := heldV_in hv n (v := v) (by omega)
    rw [h3] at this
    unfold crs
    simp only [List.mem_cons, List.not_mem_nil, or_false]
    omega
end Go.Proofs.YtndhglacgiidbaaGreatDoor
set_option maxRecDepth 100000
namespace Go.Proofs.YtndhglacgiidbaaGreatDoor
open Go.Vai Go Go.Proofs
open Nat (reduceEqDiff reduceMul reduceAdd reduceDiv reduceLeDiff)
open Int (reduceToNat reduceNe reduceEq reduceLT reduceLE)
abbrev Str (s : ByteArray) : AV := .v (.string s)
def dS (l : List Nat) : ByteArray := strOfNums (l.map fun d => ((48 + d : Nat) : Int))
abbrev Dig (l : List Nat) : Prop := ∀ d ∈ l, d < 10
theorem dS_list (l : List Nat) : (dS l).data.toList = l.map fun d => UInt8.ofNat (48 + d) := by
  rw [dS, strOfNums_data, List.map_map]; rfl
theorem dS_size (l : List Nat) : (dS l).size = l.length := by rw [dS, strOfNums_size, List.length_map]
theorem bA_ext {a b : ByteArray} (h : a.data.toList = b.data.toList) : a = b := by
  cases a; cases b; simp only [ByteArray.mk.injEq]; exact Array.toList_inj.1 h
theorem dS_of {l : List Nat} {b : ByteArray} (h : b.data.toList = l.map fun d => UInt8.ofNat (48 + d)) : b = dS l := bA_ext (h.trans (dS_list l).symm)
theorem dS_append (l m : List Nat) : dS l ++ dS m = dS (l ++ m) := dS_of (by
  rw [ByteArray.data_append, Array.toList_append, dS_list, dS_list, List.map_append])
theorem dS_extract (l : List Nat) (i j : Nat) : (dS l).extract i j = dS ((l.drop i).take (j - i)) := dS_of (by
  rw [ByteArray.data_extract, Array.toList_extract, dS_list]
  simp [List.extract, List.map_take, List.map_drop])
theorem byte_nat {d : Nat} (h : d < 10) : (UInt8.ofNat (48 + d)).toNat = 48 + d := by
  rw [UInt8.toNat_ofNat']; omega
theorem dS_inj {l m : List Nat} (hl : Dig l) (hm : Dig m) (h : dS l = dS m) : l = m := by
  have h1 := congrArg (fun b : ByteArray => b.data.toList.map fun x => x.toNat - 48) h
  simp only [dS_list, List.map_map] at h1
  have key : ∀ l : List Nat, Dig l → l.map ((fun x : UInt8 => x.toNat - 48) ∘ fun d => UInt8.ofNat (48 + d)) = l := fun l hl => by
    refine (List.map_congr_left fun d hd => ?_).trans (List.map_id l)
    simp only [Function.comp, byte_nat (hl d hd), id]; omega
  rwa [key l hl, key m hm] at h1
theorem dS_eq {l m : List Nat} (hl : Dig l) (hm : Dig m) : dS l = dS m ↔ l = m := ⟨dS_inj hl hm, fun h => by rw [h]⟩
theorem Dig.take {l : List Nat} (h : Dig l) (i : Nat) : Dig (l.take i) := fun d hd => h d (List.mem_of_mem_take hd)
theorem Dig.drop {l : List Nat} (h : Dig l) (i : Nat) : Dig (l.drop i) := fun d hd => h d (List.mem_of_mem_drop hd)
theorem Dig.app {l m : List Nat} (h : Dig l) (h2 : Dig m) : Dig (l ++ m) := fun d hd => (List.mem_append.1 hd).elim (h d) (h2 d)
def val (l : List Nat) : Nat := l.foldl (fun a d => a * 10 + d) 0
theorem val_from : ∀ (l : List Nat) (a : Nat), l.foldl (fun a d => a * 10 + d) a = a * 10 ^ l.length + val l
  | [], a => by simp [val]
  | d :: l, a => by
    rw [List.foldl_cons, val_from l, show val (d :: l) = l.foldl (fun a d => a * 10 + d) (0 * 10 + d) from rfl, val_from l (0 * 10 + d), List.length_cons, Nat.pow_succ, Nat.add_mul, Nat.zero_mul, Nat.zero_add, Nat.mul_assoc, Nat.mul_comm 10, Nat.add_assoc]
theorem val_cons (d : Nat) (l : List Nat) : val (d :: l) = d * 10 ^ l.length + val l := by
  rw [val, List.foldl_cons, val_from, Nat.zero_mul, Nat.zero_add]
theorem val_app (l m : List Nat) : val (l ++ m) = val l * 10 ^ m.length + val m := by
  rw [val, List.foldl_append, val_from]; rfl
theorem val_lt : ∀ {l : List Nat}, Dig l → val l < 10 ^ l.length
  | [], _ => by simp [val]
  | d :: l, h => by
    have h1 := val_lt (l := l) fun x hx => h x (.tail _ hx)
    have h2 : d * 10 ^ l.length ≤ 9 * 10 ^ l.length := Nat.mul_le_mul_right _ (by have := h d (.head _); omega)
    rw [val_cons, List.length_cons, Nat.pow_succ]; omega
theorem val_inj : ∀ {l m : List Nat}, Dig l → Dig m → l.length = m.length → val l = val m → l = m
  | [], [], _, _, _, _ => rfl
  | d :: l, e :: m, hl, hm, hn, h => by
    have hn' : l.length = m.length := by simpa using hn
    have h1 := val_lt (l := l) fun x hx => hl x (.tail _ hx)
    have h2 := val_lt (l := m) fun x hx => hm x (.tail _ hx)
    rw [val_cons, val_cons, hn'] at h
    rw [hn'] at h1
    have hp : 0 < 10 ^ m.length := Nat.pow_pos (by decide)
    have hde : d = e := by
      have a := Nat.add_mul_div_right (val l) d hp
      have b := Nat.add_mul_div_right (val m) e hp
      rw [Nat.div_eq_of_lt h1, Nat.add_comm (val l), h] at a
      rw [Nat.div_eq_of_lt h2, Nat.add_comm (val m)] at b
      omega
    subst hde
    rw [val_inj (fun x hx => hl x (.tail _ hx)) (fun x hx => hm x (.tail _ hx)) hn' (by omega)]
abbrev zer (n : Nat) : List Nat := List.replicate n 0
theorem zer_dig (n : Nat) : Dig (zer n) := fun d hd => by rw [List.eq_of_mem_replicate hd]; decide
theorem val_zer (n : Nat) : val (zer n) = 0 := by
  induction n with
  | zero => rfl
  | succ n ih => rw [zer, List.replicate_succ, val_cons, Nat.zero_mul, Nat.zero_add]; exact ih
def dgN : Nat → Nat → List Nat
  | 0, _ => []
  | w + 1, n => dgN w (n / 10) ++ [n % 10]
theorem dgN_length : ∀ w n, (dgN w n).length = w
  | 0, _ => rfl
  | w + 1, n => by rw [dgN, List.length_append, dgN_length]; rfl
theorem dgN_dig : ∀ w n, Dig (dgN w n)
  | 0, _ => fun d hd => by cases hd
  | w + 1, n => (dgN_dig w _).app fun d hd => by rw [List.mem_singleton.1 hd]; omega
theorem val_dgN : ∀ w n, n < 10 ^ w → val (dgN w n) = n
  | 0, n, h => by simp at h; subst h; rfl
  | w + 1, n, h => by
    rw [dgN, val_app, val_dgN w (n / 10) (by rw [Nat.pow_succ] at h; omega)]
    simp [val]; omega
theorem dec_val : ∀ (w n : Nat), n < 10 ^ (w + 1) → ∃ l : List Nat, Dig l ∧ Lib.decDigits n = l.map (fun d => UInt8.ofNat (48 + d)) ∧ l.length ≤ w + 1 ∧ val l = n
  | 0, n, h => ⟨[n], fun d hd => by rw [List.mem_singleton.1 hd]; simpa using h, by rw [Lib.decDigits, dif_pos (by simpa using h)]; rfl, by simp, by simp [val]⟩
  | w + 1, n, h => by
    by_cases hs : n < 10
    · exact ⟨[n], fun d hd => by rw [List.mem_singleton.1 hd]; exact hs, by rw [Lib.decDigits, dif_pos hs]; rfl, by simp, by simp [val]⟩
    · obtain ⟨l, h1, h2, h3, h4⟩ := dec_val w (n / 10) (by rw [Nat.pow_succ] at h; omega)
      refine ⟨l ++ [n % 10], h1.app fun d hd => by rw [List.mem_singleton.1 hd]; omega, by rw [Lib.decDigits, dif_neg hs, h2, List.map_append]; rfl, by simp; exact h3, ?_⟩
      rw [val_app, h4]; simp [val]; omega
theorem itoa_pad {n : Nat} (h : n < 100000000) : ∃ l : List Nat, Dig l ∧ Lib.itoa (n : Int) = l.map (fun d => UInt8.ofNat (48 + d)) ∧ l.length ≤ 8 ∧ zer (8 - l.length) ++ l = dgN 8 n := by
  obtain ⟨l, h1, h2, h3, h4⟩ := dec_val 7 n h
  refine ⟨l, h1, ?_, h3, val_inj ((zer_dig _).app h1) (dgN_dig 8 n) ?_ ?_⟩
  · rw [Lib.itoa, if_neg (by omega), Int.toNat_natCast]; exact h2
  · rw [List.length_append, List.length_replicate, dgN_length]; omega
  · rw [val_app, val_zer, val_dgN 8 n h, h4]; omega
theorem dec_from : ∀ (l : List Nat) (a : Nat), Dig l → Lib.decFrom a (l.map fun d => UInt8.ofNat (48 + d)) = some (l.foldl (fun a d => a * 10 + d) a)
  | [], a, _ => rfl
  | d :: l, a, h => by
    have hd := h d (.head _)
    rw [List.map_cons, Lib.decFrom, Lib.digitVal, if_pos (by rw [byte_nat hd]; omega), byte_nat hd]
    simp only
    rw [dec_from l _ fun x hx => h x (.tail _ hx), List.foldl_cons]
    congr 2; omega
theorem atoi_val {l : List Nat} (h : Dig l) (h0 : l ≠ []) : Lib.atoi (l.map fun d => UInt8.ofNat (48 + d)) = some (val l : Int) := by
  cases l with
  | nil => exact absurd rfl h0
  | cons d l =>
    have hd := byte_nat (h d (.head _))
    have e1 : (UInt8.ofNat (48 + d) == 45) = false := by
      rw [beq_eq_false_iff_ne]; intro e; rw [e] at hd; have := h d (.head _); simp at hd; omega
    have e2 : (UInt8.ofNat (48 + d) == 43) = false := by
      rw [beq_eq_false_iff_ne]; intro e; rw [e] at hd; have := h d (.head _); simp at hd; omega
    rw [List.map_cons, Lib.atoi, if_neg (by rw [e1]; decide), if_neg (by rw [e2]; decide), Lib.decNat, if_neg (by simp)]
    exact congrArg (Option.map fun m : Nat => (m : Int)) (dec_from _ 0 h)
structure Cd where
  o : List Nat
  n : List Nat
  k : Nat
deriving Inhabited
def apB (a b : List Nat) : Bool := !(a.isPrefixOf b) && !(b.isPrefixOf a)
theorem apB_iff {a b : List Nat} : apB a b = true ↔ ¬ a <+: b ∧ ¬ b <+: a := by
  unfold apB
  rw [Bool.and_eq_true, Bool.not_eq_true', Bool.not_eq_true', ← Bool.not_eq_true, ← Bool.not_eq_true, List.isPrefixOf_iff_prefix, List.isPrefixOf_iff_prefix]
theorem apB_sym (a b : List Nat) : apB a b = apB b a := by unfold apB; rw [Bool.and_comm]
def oneP (c : Cd) : Prop := ((1 ≤ c.o.length ∧ c.o.length ≤ 4) ∧ 1 ≤ c.n.length ∧ c.n.length ≤ 5) ∧ (c.o.length < c.k ∧ c.k ≤ 7) ∧ c.k + c.n.length ≤ 8 + c.o.length
instance (c : Cd) : Decidable (oneP c) := by unfold oneP; infer_instance
def oneB (c : Cd) : Bool := decide (oneP c) && apB c.o c.n
def difB (a b : Cd) : Bool := apB a.o b.o && (apB a.n b.n && (apB a.o b.n && apB a.n b.o))
def okAt (p : List Cd) (i : Nat) : Bool := oneB (gd p i) && (List.range i).all fun k => difB (gd p i) (gd p k)
def validP (p : List Cd) : Bool := decide (p.length ≤ 20) && (List.range p.length).all (okAt p)
theorem validP_iff {p : List Cd} : validP p = true ↔ p.length ≤ 20 ∧ ∀ i, i < p.length → oneB (gd p i) = true ∧ ∀ k, k < i → difB (gd p i) (gd p k) = true := by
  simp only [validP, okAt, Bool.and_eq_true, decide_eq_true_eq, List.all_eq_true, List.mem_range]
def kyP (p : List Cd) (i : Nat) (b : Bool) : List Nat := if b then (gd p i).n else (gd p i).o
theorem ky_apart {p : List Cd} (h : validP p = true) {i j : Nat} {b c : Bool} (hi : i < p.length) (hj : j < p.length) (hne : (i, b) ≠ (j, c)) : apB (kyP p i b) (kyP p j c) = true := by
  obtain ⟨_, h⟩ := validP_iff.1 h
  rcases Nat.lt_trichotomy i j with hij | rfl | hij
  · have := (h j hj).2 i hij
    simp only [difB, Bool.and_eq_true] at this
    obtain ⟨h1, h2, h3, h4⟩ := this
    unfold kyP
    cases b <;> cases c <;> simp only [Bool.false_eq_true, if_false, if_true] <;> rw [apB_sym] <;> assumption
  · have := (h i hi).1
    simp only [oneB, Bool.and_eq_true] at this
    unfold kyP
    cases b <;> cases c
    · exact absurd rfl hne
    · exact this.2
    · rw [apB_sym]; exact this.2
    · exact absurd rfl hne
  · have := (h i hi).2 j hij
    simp only [difB, Bool.and_eq_true] at this
    obtain ⟨h1, h2, h3, h4⟩ := this
    unfold kyP
    cases b <;> cases c <;> simp only [Bool.false_eq_true, if_false, if_true] <;> assumption
theorem ky_one {p : List Cd} (h : validP p = true) {i j : Nat} {b c : Bool} (hi : i < p.length) (hj : j < p.length) {s : List Nat} (h1 : kyP p i b <+: s) (h2 : kyP p j c <+: s) : (i, b) = (j, c) := by
  by_cases hne : (i, b) = (j, c)
  · exact hne
  exfalso
  have := apB_iff.1 (ky_apart h hi hj hne)
  rcases List.prefix_or_prefix_of_prefix h1 h2 with h | h
  · exact this.1 h
  · exact this.2 h
def digC (c : Cd) : Prop := Dig c.o ∧ Dig c.n
def digP (p : List Cd) : Prop := ∀ c ∈ p, digC c
theorem digP_at {p : List Cd} (h : digP p) {i : Nat} (hi : i < p.length) : digC (gd p i) := h _ (gd_mem p i hi)
theorem ky_dig {p : List Cd} (h : digP p) {i : Nat} {b : Bool} (hi : i < p.length) : Dig (kyP p i b) := by
  unfold kyP; split
  · exact (digP_at h hi).2
  · exact (digP_at h hi).1
def prefF (c n : Nat) : List Nat := (List.range n).map fun i => c / 10 ^ i % 10
theorem prefF_length (c n : Nat) : (prefF c n).length = n := by simp [prefF]
theorem prefF_dig (c n : Nat) : Dig (prefF c n) := fun d hd => by
  obtain ⟨i, _, rfl⟩ := List.mem_map.1 hd; omega
theorem prefF_succ (c n : Nat) : prefF c (n + 1) = prefF c n ++ [c / 10 ^ n % 10] := by simp [prefF, List.range_succ]
def oneF (a b c : Int) : Cd :=
  let o := prefF (pickF (a.tdiv 3) 1000).toNat (1 + pickF a 3).toNat
  let n := prefF (pickF (b.tdiv 3) 1000).toNat (1 + pickF b 3).toNat
  ⟨o, n, o.length + 1 + (pickF c (min (7 - (o.length : Int)) (8 - (n.length : Int)))).toNat⟩
theorem oneF_dig (a b c : Int) : digC (oneF a b c) := ⟨prefF_dig _ _, prefF_dig _ _⟩
def stepM (p : List Cd) (x : Int × Int × Int) : List Cd := if p.length < 8 ∧ validP (p ++ [oneF x.1 x.2.1 x.2.2]) = true then p ++ [oneF x.1 x.2.1 x.2.2] else p
def madeP (x : List (Int × Int × Int)) : List Cd := (x.take 16).foldl stepM []
theorem madeP_ok (x : List (Int × Int × Int)) : validP (madeP x) = true ∧ digP (madeP x) ∧ (madeP x).length ≤ 8 := by
  have : ∀ (l : List (Int × Int × Int)) (p : List Cd), validP p = true ∧ digP p ∧ p.length ≤ 8 → validP (l.foldl stepM p) = true ∧ digP (l.foldl stepM p) ∧ (l.foldl stepM p).length ≤ 8 := by
    intro l
    induction l with
    | nil => exact fun _ h => h
    | cons y l ih =>
      intro p ⟨h1, h2, h3⟩
      rw [List.foldl_cons]
      refine ih _ ?_
      unfold stepM
      split
      · rename_i h
        refine ⟨h.2, fun c hc => ?_, by simp; omega⟩
        rcases List.mem_append.1 hc with hc | hc
        · exact h2 c hc
        · rw [List.mem_singleton.1 hc]; exact oneF_dig _ _ _
      · exact ⟨h1, h2, h3⟩
  exact this _ [] ⟨rfl, (fun c hc => by cases hc), by simp⟩
theorem stepM_full {p : List Cd} (h : ¬ p.length < 8) (l : List (Int × Int × Int)) : l.foldl stepM p = p := by
  induction l with
  | nil => rfl
  | cons y l ih => rw [List.foldl_cons, stepM, if_neg fun hh => h hh.1]; exact ih
end Go.Proofs.YtndhglacgiidbaaGreatDoor
set_option maxRecDepth 100000
namespace Go.Proofs
open Go.Shelf
def Tryz.lays172_ren : Go.Shelf.Ren := ⟨fun | 172 => 29 | 244 => 57 | 245 => 58 | 247 => 86 | 279 => 87 | 280 => 88 | 281 => 89 | 282 => 90 | 287 => 117 | 316 => 118 | 171 => 59 | 205 => 119 | 321 => 137 | 322 => 138 | 243 => 91 | 246 => 120 | 283 => 139 | 284 => 140 | 285 => 141 | 286 => 142 | 129 => 116 | 317 => 153 | 318 => 154 | 319 => 155 | 320 => 156 | 337 => 158 | 338 => 159 | n => n, fun | 9 => 9 | 3 => 3 | 75 => 75 | 76 => 76 | 4 => 4 | 5 => 5 | 167 => 137 | 37 => 136 | 0 => 0 | 85 => 138 | 2 => 2 | 168 => 140 | 53 => 170 | 175 => 171 | 46 => 135 | 210 => 175 | 127 => 182 | 145 => 198 | 143 => 196 | 21 => 21 | 171 => 199 | 173 => 201 | 212 => 221 | 51 => 168 | 20 => 20 | 213 => 222 | 232 => 223 | 233 => 224 | 80 => 150 | n => n, fun | 15 => 0 | 16 => 1 | 17 => 4 | 18 => 6 | 19 => 7 | n => n⟩
theorem Tryz.lays172 : Go.Proofs.Lays.n172 Tryz.prog Tryz.lays172_ren := {
  mixed := by kernel_rfl
  f129 := Tryz.func116.trans (congrArg some (by kernel_rfl))
  f171 := Tryz.func59.trans (congrArg some (by kernel_rfl))
  f172 := Tryz.func29.trans (congrArg some (by kernel_rfl))
  f205 := Tryz.func119.trans (congrArg some (by kernel_rfl))
  f243 := Tryz.func91.trans (congrArg some (by kernel_rfl))
  f244 := Tryz.func57.trans (congrArg some (by kernel_rfl))
  f245 := Tryz.func58.trans (congrArg some (by kernel_rfl))
  f246 := Tryz.func120.trans (congrArg some (by kernel_rfl))
  f247 := Tryz.func86.trans (congrArg some (by kernel_rfl))
  f279 := Tryz.func87.trans (congrArg some (by kernel_rfl))
  f280 := Tryz.func88.trans (congrArg some (by kernel_rfl))
  f281 := Tryz.func89.trans (congrArg some (by kernel_rfl))
  f282 := Tryz.func90.trans (congrArg some (by kernel_rfl))
  f283 := Tryz.func139.trans (congrArg some (by kernel_rfl))
  f284 := Tryz.func140.trans (congrArg some (by kernel_rfl))
  f285 := Tryz.func141.trans (congrArg some (by kernel_rfl))
  f286 := Tryz.func142.trans (congrArg some (by kernel_rfl))
  f287 := Tryz.func117.trans (congrArg some (by kernel_rfl))
  f316 := Tryz.func118.trans (congrArg some (by kernel_rfl))
  f317 := Tryz.func153.trans (congrArg some (by kernel_rfl))
  f318 := Tryz.func154.trans (congrArg some (by kernel_rfl))
  f319 := Tryz.func155.trans (congrArg some (by kernel_rfl))
  f320 := Tryz.func156.trans (congrArg some (by kernel_rfl))
  f321 := Tryz.func137.trans (congrArg some (by kernel_rfl))
  f322 := Tryz.func138.trans (congrArg some (by kernel_rfl))
  f337 := Tryz.func158.trans (congrArg some (by kernel_rfl))
  f338 := Tryz.func159.trans (congrArg some (by kernel_rfl))
  t0 := Tryz.underlying0
  a0 := Tryz.isAgg0
  z0 := Tryz.sizeOf0
  v0 := Tryz.zeroValue0
  t2 := Tryz.underlying2
  a2 := Tryz.isAgg2
  z2 := Tryz.sizeOf2
  v2 := Tryz.zeroValue2
  t3 := Tryz.underlying3
  a3 := Tryz.isAgg3
  z3 := Tryz.sizeOf3
  v3 := Tryz.zeroValue3
  t4 := Tryz.underlying4
  a4 := Tryz.isAgg4
  z4 := Tryz.sizeOf4
  v4 := Tryz.zeroValue4
  t5 := Tryz.underlying5
  a5 := Tryz.isAgg5
  z5 := Tryz.sizeOf5
  v5 := Tryz.zeroValue5
  t9 := Tryz.underlying9
  a9 := Tryz.isAgg9
  z9 := Tryz.sizeOf9
  v9 := Tryz.zeroValue9
  t20 := Tryz.underlying20
  a20 := Tryz.isAgg20
  z20 := Tryz.sizeOf20
  v20 := Tryz.zeroValue20
  t21 := Tryz.underlying21
  a21 := Tryz.isAgg21
  z21 := Tryz.sizeOf21
  v21 := Tryz.zeroValue21
  t37 := Tryz.underlying136
  a37 := Tryz.isAgg136
  z37 := Tryz.sizeOf136
  v37 := Tryz.zeroValue136
  t46 := Tryz.underlying135
  a46 := Tryz.isAgg135
  z46 := Tryz.sizeOf135
  v46 := Tryz.zeroValue135
  t51 := Tryz.underlying168
  a51 := Tryz.isAgg168
  z51 := Tryz.sizeOf168
  v51 := Tryz.zeroValue168
  t53 := Tryz.underlying170
  a53 := Tryz.isAgg170
  z53 := Tryz.sizeOf170
  v53 := Tryz.zeroValue170
  t75 := Tryz.underlying75
  a75 := Tryz.isAgg75
  z75 := Tryz.sizeOf75
  v75 := Tryz.zeroValue75
  t76 := Tryz.underlying76
  a76 := Tryz.isAgg76
  z76 := Tryz.sizeOf76
  v76 := Tryz.zeroValue76
  t85 := Tryz.underlying138
  a85 := Tryz.isAgg138
  z85 := Tryz.sizeOf138
  v85 := Tryz.zeroValue138
  t127 := Tryz.underlying182
  a127 := Tryz.isAgg182
  z127 := Tryz.sizeOf182
  v127 := Tryz.zeroValue182
  t143 := Tryz.underlying196
  a143 := Tryz.isAgg196
  z143 := Tryz.sizeOf196
  v143 := Tryz.zeroValue196
  t145 := Tryz.underlying198
  a145 := Tryz.isAgg198
  z145 := Tryz.sizeOf198
  v145 := Tryz.zeroValue198
  t167 := Tryz.underlying137
  a167 := Tryz.isAgg137
  z167 := Tryz.sizeOf137
  v167 := Tryz.zeroValue137
  t168 := Tryz.underlying140
  a168 := Tryz.isAgg140
  z168 := Tryz.sizeOf140
  v168 := Tryz.zeroValue140
  t171 := Tryz.underlying199
  a171 := Tryz.isAgg199
  z171 := Tryz.sizeOf199
  v171 := Tryz.zeroValue199
  t173 := Tryz.underlying201
  a173 := Tryz.isAgg201
  z173 := Tryz.sizeOf201
  v173 := Tryz.zeroValue201
  t175 := Tryz.underlying171
  a175 := Tryz.isAgg171
  z175 := Tryz.sizeOf171
  v175 := Tryz.zeroValue171
  t210 := Tryz.underlying175
  a210 := Tryz.isAgg175
  z210 := Tryz.sizeOf175
  v210 := Tryz.zeroValue175
  t212 := Tryz.underlying221
  a212 := Tryz.isAgg221
  z212 := Tryz.sizeOf221
  v212 := Tryz.zeroValue221
  t213 := Tryz.underlying222
  a213 := Tryz.isAgg222
  z213 := Tryz.sizeOf222
  t232 := Tryz.underlying223
  a232 := Tryz.isAgg223
  z232 := Tryz.sizeOf223
  v232 := Tryz.zeroValue223
  t233 := Tryz.underlying224
  a233 := Tryz.isAgg224
  z233 := Tryz.sizeOf224
  v233 := Tryz.zeroValue224
  g15 := by kernel_rfl
  g16 := by kernel_rfl
  g17 := by kernel_rfl
  g18 := by kernel_rfl
  g19 := by kernel_rfl }
open Go.RowKit in
theorem Tryz.strconv_Atoi (s : ByteArray) (n : Int) (hl : s.size ≤ 18) (h : Lib.atoi s.data.toList = some n) (w : World) :
    Calls Tryz.prog 29 #[.string s] w fun e w' => e = .returned (.tuple #[.int .i64 n, .nilIface]) ∧ ∃ t, w' = Lib.bytesWorld w 5 t := Any.strconv_Atoi Tryz.lays172 s n hl h w
def Tryz.laysM171_ren : Go.Shelf.Ren := ⟨fun | 171 => 59 | 243 => 91 | 246 => 120 | 283 => 139 | 284 => 140 | 285 => 141 | 286 => 142 | 129 => 116 | 317 => 153 | 318 => 154 | 319 => 155 | 320 => 156 | 337 => 158 | 338 => 159 | n => n, fun | 3 => 3 | 9 => 9 | 2 => 2 | 4 => 4 | 171 => 199 | 0 => 0 | 53 => 170 | 37 => 136 | 5 => 5 | 173 => 201 | 212 => 221 | 51 => 168 | 20 => 20 | 213 => 222 | 46 => 135 | 232 => 223 | 233 => 224 | n => n, fun | 17 => 4 | 18 => 6 | 19 => 7 | n => n⟩
theorem Tryz.laysM171 : Go.Proofs.LaysM.n171 Tryz.prog Tryz.laysM171_ren := {
  mixed := by kernel_rfl
  f129 := Tryz.func116.trans (congrArg some (by kernel_rfl))
  f171 := Tryz.func59.trans (congrArg some (by kernel_rfl))
  f243 := Tryz.func91.trans (congrArg some (by kernel_rfl))
  f246 := Tryz.func120.trans (congrArg some (by kernel_rfl))
  f283 := Tryz.func139.trans (congrArg some (by kernel_rfl))
  f284 := Tryz.func140.trans (congrArg some (by kernel_rfl))
  f285 := Tryz.func141.trans (congrArg some (by kernel_rfl))
  f286 := Tryz.func142.trans (congrArg some (by kernel_rfl))
  f317 := Tryz.func153.trans (congrArg some (by kernel_rfl))
  f318 := Tryz.func154.trans (congrArg some (by kernel_rfl))
  f319 := Tryz.func155.trans (congrArg some (by kernel_rfl))
  f320 := Tryz.func156.trans (congrArg some (by kernel_rfl))
  f337 := Tryz.func158.trans (congrArg some (by kernel_rfl))
  f338 := Tryz.func159.trans (congrArg some (by kernel_rfl))
  t0 := Tryz.underlying0
  a0 := Tryz.isAgg0
  z0 := Tryz.sizeOf0
  v0 := Tryz.zeroValue0
  t2 := Tryz.underlying2
  a2 := Tryz.isAgg2
  z2 := Tryz.sizeOf2
  v2 := Tryz.zeroValue2
  t3 := Tryz.underlying3
  a3 := Tryz.isAgg3
  z3 := Tryz.sizeOf3
  v3 := Tryz.zeroValue3
  t4 := Tryz.underlying4
  a4 := Tryz.isAgg4
  z4 := Tryz.sizeOf4
  v4 := Tryz.zeroValue4
  t5 := Tryz.underlying5
  a5 := Tryz.isAgg5
  z5 := Tryz.sizeOf5
  v5 := Tryz.zeroValue5
  t9 := Tryz.underlying9
  a9 := Tryz.isAgg9
  z9 := Tryz.sizeOf9
  v9 := Tryz.zeroValue9
  t20 := Tryz.underlying20
  a20 := Tryz.isAgg20
  z20 := Tryz.sizeOf20
  v20 := Tryz.zeroValue20
  t37 := Tryz.underlying136
  a37 := Tryz.isAgg136
  z37 := Tryz.sizeOf136
  v37 := Tryz.zeroValue136
  t46 := Tryz.underlying135
  a46 := Tryz.isAgg135
  z46 := Tryz.sizeOf135
  v46 := Tryz.zeroValue135
  t51 := Tryz.underlying168
  a51 := Tryz.isAgg168
  z51 := Tryz.sizeOf168
  v51 := Tryz.zeroValue168
  t53 := Tryz.underlying170
  a53 := Tryz.isAgg170
  z53 := Tryz.sizeOf170
  v53 := Tryz.zeroValue170
  t171 := Tryz.underlying199
  a171 := Tryz.isAgg199
  z171 := Tryz.sizeOf199
  v171 := Tryz.zeroValue199
  t173 := Tryz.underlying201
  a173 := Tryz.isAgg201
  z173 := Tryz.sizeOf201
  v173 := Tryz.zeroValue201
  t212 := Tryz.underlying221
  a212 := Tryz.isAgg221
  z212 := Tryz.sizeOf221
  v212 := Tryz.zeroValue221
  t213 := Tryz.underlying222
  a213 := Tryz.isAgg222
  z213 := Tryz.sizeOf222
  t232 := Tryz.underlying223
  a232 := Tryz.isAgg223
  z232 := Tryz.sizeOf223
  v232 := Tryz.zeroValue223
  t233 := Tryz.underlying224
  a233 := Tryz.isAgg224
  z233 := Tryz.sizeOf224
  v233 := Tryz.zeroValue224
  g17 := by kernel_rfl
  g18 := by kernel_rfl
  g19 := by kernel_rfl
  i0 := by kernel_rfl
  i2 := by kernel_rfl
  i3 := by kernel_rfl
  i4 := by kernel_rfl
  i5 := by kernel_rfl
  i9 := by kernel_rfl
  i20 := by kernel_rfl
  i37 := by kernel_rfl
  i46 := by kernel_rfl
  i51 := by kernel_rfl
  i53 := by kernel_rfl
  i171 := by kernel_rfl
  i173 := by kernel_rfl
  i212 := by kernel_rfl
  i232 := by kernel_rfl
  i233 := by kernel_rfl
  m17 := by kernel_rfl
  m18 := by kernel_rfl
  m19 := by kernel_rfl }
open Go.RowKit Go.Sort Go.Lib in
theorem Tryz.strconv_Itoa (n : Int) (h0 : -9223372036854775808 ≤ n) (h1 : n ≤ 9223372036854775807) (w : World) (htab : Lib.TabIs Tryz.prog w "internal/strconv.uint64pow10" .u64 Lib.pow10Tab) :
    Calls Tryz.prog 59 #[.int .i64 n] w fun e w' => e = .returned (.string ⟨(Lib.itoa n).toArray⟩) ∧ ∃ k os, w' = grow (w.drewN k) os := Any.strconv_Itoa Tryz.laysM171 n h0 h1 w htab
def Tryz.lays105_ren : Go.Shelf.Ren := ⟨fun | 105 => 60 | 212 => 92 | 99 => 33 | 165 => 93 | 166 => 94 | 170 => 95 | 169 => 96 | 263 => 121 | 264 => 122 | 206 => 61 | 240 => 123 | 241 => 124 | 276 => 143 | 277 => 144 | n => n, fun | 9 => 9 | 3 => 3 | 4 => 4 | 20 => 20 | 0 => 0 | 46 => 135 | 109 => 143 | 5 => 5 | 72 => 147 | 76 => 76 | 51 => 168 | 146 => 178 | 53 => 170 | 148 => 180 | 70 => 145 | 37 => 136 | 75 => 75 | 127 => 182 | 164 => 203 | 80 => 150 | n => n, fun | n => n⟩
theorem Tryz.lays105 : Go.Proofs.Lays.n105 Tryz.prog Tryz.lays105_ren := {
  mixed := by kernel_rfl
  f99 := Tryz.func33.trans (congrArg some (by kernel_rfl))
  f105 := Tryz.func60.trans (congrArg some (by kernel_rfl))
  f165 := Tryz.func93.trans (congrArg some (by kernel_rfl))
  f166 := Tryz.func94.trans (congrArg some (by kernel_rfl))
  f169 := Tryz.func96.trans (congrArg some (by kernel_rfl))
  f170 := Tryz.func95.trans (congrArg some (by kernel_rfl))
  f206 := Tryz.func61.trans (congrArg some (by kernel_rfl))
  f212 := Tryz.func92.trans (congrArg some (by kernel_rfl))
  f240 := Tryz.func123.trans (congrArg some (by kernel_rfl))
  f241 := Tryz.func124.trans (congrArg some (by kernel_rfl))
  f263 := Tryz.func121.trans (congrArg some (by kernel_rfl))
  f264 := Tryz.func122.trans (congrArg some (by kernel_rfl))
  f276 := Tryz.func143.trans (congrArg some (by kernel_rfl))
  f277 := Tryz.func144.trans (congrArg some (by kernel_rfl))
  t0 := Tryz.underlying0
  a0 := Tryz.isAgg0
  z0 := Tryz.sizeOf0
  v0 := Tryz.zeroValue0
  t3 := Tryz.underlying3
  a3 := Tryz.isAgg3
  z3 := Tryz.sizeOf3
  v3 := Tryz.zeroValue3
  t4 := Tryz.underlying4
  a4 := Tryz.isAgg4
  z4 := Tryz.sizeOf4
  v4 := Tryz.zeroValue4
  t5 := Tryz.underlying5
  a5 := Tryz.isAgg5
  z5 := Tryz.sizeOf5
  v5 := Tryz.zeroValue5
  t9 := Tryz.underlying9
  a9 := Tryz.isAgg9
  z9 := Tryz.sizeOf9
  v9 := Tryz.zeroValue9
  t20 := Tryz.underlying20
  a20 := Tryz.isAgg20
  z20 := Tryz.sizeOf20
  v20 := Tryz.zeroValue20
  t37 := Tryz.underlying136
  a37 := Tryz.isAgg136
  z37 := Tryz.sizeOf136
  v37 := Tryz.zeroValue136
  t46 := Tryz.underlying135
  a46 := Tryz.isAgg135
  z46 := Tryz.sizeOf135
  v46 := Tryz.zeroValue135
  t51 := Tryz.underlying168
  a51 := Tryz.isAgg168
  z51 := Tryz.sizeOf168
  v51 := Tryz.zeroValue168
  t53 := Tryz.underlying170
  a53 := Tryz.isAgg170
  z53 := Tryz.sizeOf170
  v53 := Tryz.zeroValue170
  t70 := Tryz.underlying145
  a70 := Tryz.isAgg145
  z70 := Tryz.sizeOf145
  v70 := Tryz.zeroValue145
  t72 := Tryz.underlying147
  a72 := Tryz.isAgg147
  z72 := Tryz.sizeOf147
  v72 := Tryz.zeroValue147
  t75 := Tryz.underlying75
  a75 := Tryz.isAgg75
  z75 := Tryz.sizeOf75
  v75 := Tryz.zeroValue75
  t76 := Tryz.underlying76
  a76 := Tryz.isAgg76
  z76 := Tryz.sizeOf76
  v76 := Tryz.zeroValue76
  t109 := Tryz.underlying143
  a109 := Tryz.isAgg143
  z109 := Tryz.sizeOf143
  v109 := Tryz.zeroValue143
  t127 := Tryz.underlying182
  a127 := Tryz.isAgg182
  z127 := Tryz.sizeOf182
  v127 := Tryz.zeroValue182
  t146 := Tryz.underlying178
  a146 := Tryz.isAgg178
  z146 := Tryz.sizeOf178
  v146 := Tryz.zeroValue178
  t148 := Tryz.underlying180
  a148 := Tryz.isAgg180
  z148 := Tryz.sizeOf180
  v148 := Tryz.zeroValue180
  t164 := Tryz.underlying203
  a164 := Tryz.isAgg203
  z164 := Tryz.sizeOf203
  v164 := Tryz.zeroValue203 }
theorem Tryz.Builder_Extra_105 : Builder.Extra Tryz.prog Tryz.lays105_ren := {
  sizeBuilder := by kernel_rfl
  liesBuilder := by kernel_rfl
  t5 := Tryz.underlying5
  a5 := Tryz.isAgg5
  z5 := Tryz.sizeOf5
  v5 := Tryz.zeroValue5
  infoByte := by kernel_rfl
  cellsByte := by kernel_rfl
  sizeByte := by kernel_rfl
  neB5 := by decide }
open Go.RowKit Go.Lib in
theorem Tryz.strings_Repeat (s : ByteArray) (c : Nat) (w : World) (hc : c ≤ 9223372036854775807) (hlen : s.size * c ≤ 140737488355328) :
    Calls Tryz.prog 60 #[.string s, .int .i64 c] w fun e w' => e = .returned (.string ⟨(Lib.repeatL s.data.toList c).toArray⟩) ∧ Below w.heap.size w w' := Any.strings_Repeat Tryz.lays105 Tryz.Builder_Extra_105 s c w hc hlen
def Tryz.lays160_ren : Go.Shelf.Ren := ⟨fun | 160 => 34 | 232 => 63 | 231 => 62 | 227 => 64 | 234 => 66 | 233 => 65 | 236 => 68 | 235 => 67 | 228 => 97 | 271 => 100 | 151 => 99 | 197 => 98 | 120 => 127 | 152 => 126 | 260 => 125 | 137 => 145 | 119 => 146 | 224 => 147 | 225 => 148 | 217 => 157 | 266 => 160 | n => n, fun | 9 => 9 | 4 => 4 | 3 => 3 | 5 => 5 | 117 => 119 | 116 => 118 | 0 => 0 | 124 => 122 | 21 => 21 | 105 => 152 | 46 => 135 | 119 => 206 | 139 => 209 | 138 => 208 | n => n, fun | 3 => 2 | 4 => 3 | n => n⟩
theorem Tryz.lays160 : Go.Proofs.Lays.n160 Tryz.prog Tryz.lays160_ren := {
  mixed := by kernel_rfl
  f119 := Tryz.func146.trans (congrArg some (by kernel_rfl))
  f120 := Tryz.func127.trans (congrArg some (by kernel_rfl))
  f137 := Tryz.func145.trans (congrArg some (by kernel_rfl))
  f151 := Tryz.func99.trans (congrArg some (by kernel_rfl))
  f152 := Tryz.func126.trans (congrArg some (by kernel_rfl))
  f160 := Tryz.func34.trans (congrArg some (by kernel_rfl))
  f197 := Tryz.func98.trans (congrArg some (by kernel_rfl))
  f217 := Tryz.func157.trans (congrArg some (by kernel_rfl))
  f224 := Tryz.func147.trans (congrArg some (by kernel_rfl))
  f225 := Tryz.func148.trans (congrArg some (by kernel_rfl))
  f227 := Tryz.func64.trans (congrArg some (by kernel_rfl))
  f228 := Tryz.func97.trans (congrArg some (by kernel_rfl))
  f231 := Tryz.func62.trans (congrArg some (by kernel_rfl))
  f232 := Tryz.func63.trans (congrArg some (by kernel_rfl))
  f233 := Tryz.func65.trans (congrArg some (by kernel_rfl))
  f234 := Tryz.func66.trans (congrArg some (by kernel_rfl))
  f235 := Tryz.func67.trans (congrArg some (by kernel_rfl))
  f236 := Tryz.func68.trans (congrArg some (by kernel_rfl))
  f260 := Tryz.func125.trans (congrArg some (by kernel_rfl))
  f266 := Tryz.func160.trans (congrArg some (by kernel_rfl))
  f271 := Tryz.func100.trans (congrArg some (by kernel_rfl))
  t0 := Tryz.underlying0
  a0 := Tryz.isAgg0
  z0 := Tryz.sizeOf0
  v0 := Tryz.zeroValue0
  t3 := Tryz.underlying3
  a3 := Tryz.isAgg3
  z3 := Tryz.sizeOf3
  v3 := Tryz.zeroValue3
  t4 := Tryz.underlying4
  a4 := Tryz.isAgg4
  z4 := Tryz.sizeOf4
  v4 := Tryz.zeroValue4
  t5 := Tryz.underlying5
  a5 := Tryz.isAgg5
  z5 := Tryz.sizeOf5
  v5 := Tryz.zeroValue5
  t9 := Tryz.underlying9
  a9 := Tryz.isAgg9
  z9 := Tryz.sizeOf9
  v9 := Tryz.zeroValue9
  t21 := Tryz.underlying21
  a21 := Tryz.isAgg21
  z21 := Tryz.sizeOf21
  v21 := Tryz.zeroValue21
  t46 := Tryz.underlying135
  a46 := Tryz.isAgg135
  z46 := Tryz.sizeOf135
  v46 := Tryz.zeroValue135
  t105 := Tryz.underlying152
  a105 := Tryz.isAgg152
  z105 := Tryz.sizeOf152
  v105 := Tryz.zeroValue152
  t116 := Tryz.underlying118
  a116 := Tryz.isAgg118
  z116 := Tryz.sizeOf118
  t117 := Tryz.underlying119
  a117 := Tryz.isAgg119
  z117 := Tryz.sizeOf119
  v117 := Tryz.zeroValue119
  t119 := Tryz.underlying206
  a119 := Tryz.isAgg206
  z119 := Tryz.sizeOf206
  t124 := Tryz.underlying122
  a124 := Tryz.isAgg122
  z124 := Tryz.sizeOf122
  v124 := Tryz.zeroValue122
  t138 := Tryz.underlying208
  a138 := Tryz.isAgg208
  z138 := Tryz.sizeOf208
  v138 := Tryz.zeroValue208
  t139 := Tryz.underlying209
  a139 := Tryz.isAgg209
  z139 := Tryz.sizeOf209
  v139 := Tryz.zeroValue209
  g3 := by kernel_rfl
  g4 := by kernel_rfl }
open Go.RowKit in
theorem Tryz.strings_Trim_laid (s cutset : ByteArray) (w : World) (hs : s.size ≤ 9223372036854775807) (hcs : cutset.size < 4294967281) (hascii : ∀ (j : Nat) b, cutset.data.toList[j]? = some b → b.toNat < 128) :
    Calls Tryz.prog 34 #[.string s, .string cutset] w fun e w' => e = .returned (.string ⟨(Lib.trimS s.data.toList cutset.data.toList).toArray⟩) ∧ Below w.heap.size w w' := Any.strings_Trim_laid Tryz.lays160 (by kernel_rfl) s cutset w hs hcs hascii
end Go.Proofs
namespace Go.Vai
open Go.RowKit
theorem ev_plain {P : Program} {f : FuncId} (vs : List Value) (r : AV) (y : Value) (hent : ∀ args w, (callFunc f args).run P w = .ok (.enter f args) w) (hr : ∀ w w' Im, RRep w w' Im r y)
    (h : ∀ w Im, GOK w Im → Calls P f vs.toArray w fun e w' => e = .returned y ∧ Below w.heap.size w w') : Ev P f (vs.map .v) r := by
  rintro args r' ⟨rfl, rfl⟩
  refine ⟨hent, fun w Im us _ hG hus => ?_⟩
  have : us = vs := List.ext_getElem? fun i => by
    by_cases hi : i < vs.length
    · have hi2 : i < us.length := by have := hus.1; simp at this; omega
      have := hus.2 i (.v vs[i]) us[i] (by simp [hi]) (List.getElem?_eq_getElem hi2)
      rw [List.getElem?_eq_getElem hi, List.getElem?_eq_getElem hi2]
      generalize us[i] = u at this
      cases this
      rfl
    · have hi2 : us.length ≤ i := by have := hus.1; simp at this; omega
      rw [List.getElem?_eq_none hi2, List.getElem?_eq_none (Nat.le_of_not_lt hi)]
  subst this
  exact (h w Im hG).mono fun e w' ⟨h1, h2⟩ => ⟨_, h1, ⟨h2.os, h2.tape, h2.output, h2.size, fun k hk _ => h2.block k hk⟩, hr _ _ _⟩
theorem rrep_str (s : ByteArray) (w w' : World) (Im : Nat → Prop) : RRep w w' Im (.v (.string s)) (.string s) := ⟨Im, fun _ h => h, fun _ h => .inl h, none, ⟨rfl, .v _⟩, by simp [Fresh]⟩
theorem rrep_two (a b : Value) (w w' : World) (Im : Nat → Prop) : RRep w w' Im (.tup [.v a, .v b]) (.tuple #[a, b]) := ⟨Im, fun _ h => h, fun _ h => .inl h, [a, b], [none, none], rfl, ⟨⟨rfl, .v _⟩, ⟨rfl, .v _⟩, trivial⟩, by simp [Fresh]⟩
end Go.Vai
namespace Go.Proofs.YtndhglacgiidbaaGreatDoor
open Go.Vai Go Go.Proofs
open Nat (reduceEqDiff reduceMul reduceAdd reduceDiv reduceLeDiff)
open Int (reduceToNat reduceNe reduceEq reduceLT reduceLE)
theorem atoi_ev (l : List Nat) (h : Dig l) (h0 : l ≠ []) (hl : l.length ≤ 18) : Ev Tryz.prog 29 [Str (dS l)] (.tup [I (val l), .v .nilIface]) :=
  ev_plain [.string (dS l)] _ _ (enters_of Tryz.func29 (by kernel_rfl) rfl) (rrep_two _ _) fun w Im _ =>
    (Tryz.strconv_Atoi (dS l) (val l) (by rw [dS_size]; exact hl) (by rw [dS_list]; exact atoi_val h h0) w).mono fun e w' ⟨h1, t, h2⟩ => ⟨h1, by subst h2; exact ⟨rfl, rfl, rfl, by rw [Lib.bytesWorld_size]; omega, fun j hj => Lib.bytesWorld_at_old w _ t j hj⟩⟩
theorem itoa_ev (n : Nat) (hn : n < 100000000) (l : List Nat) (h : Lib.itoa (n : Int) = l.map (fun d => UInt8.ofNat (48 + d))) : Ev Tryz.prog 59 [I n] (Str (dS l)) :=
  ev_plain [.int .i64 n] _ _ (enters_of Tryz.func59 (by kernel_rfl) rfl) (rrep_str _) fun w Im hG => by
    have hg : (4, Lib.pow10Tab.map (Value.int .u64)) ∈ gtab := by
      rw [show gtab = [(4, Lib.pow10Tab.map (Value.int .u64))] from by kernel_rfl]; exact List.mem_singleton.2 rfl
    obtain ⟨e, fr, hb⟩ := (hG _ hg).2.2 rfl
    have ht : Lib.TabIs Tryz.prog w "internal/strconv.uint64pow10" .u64 Lib.pow10Tab := by
      simp only [Lib.TabIs, World.var?, show Tryz.prog.globalNamed "internal/strconv.uint64pow10" = some 4 from by kernel_rfl, Option.bind_some]
      simp only at hb
      rw [hb]
    refine (Tryz.strconv_Itoa n (by omega) (by omega) w ht).mono fun e w' ⟨h1, k, os, h2⟩ => ⟨?_, ?_⟩
    · rw [h1, h, ← dS_list]
    · subst h2
      exact ⟨rfl, rfl, rfl, by simp [Go.Sort.grow, World.drewN], fun j hj => by simp only [Go.Sort.grow, World.drewN]; exact Array.getElem?_append_left hj⟩
theorem rep_zer (n : Nat) : Lib.repeatL [48] n = (zer n).map fun d => UInt8.ofNat (48 + d) := by
  induction n with
  | zero => rfl
  | succ n ih => rw [Lib.repeatL, ih]; rfl
theorem repeat_ev (n : Nat) (hn : n ≤ 1000) : Ev Tryz.prog 60 [Str ⟨#[48]⟩, I n] (Str (dS (zer n))) :=
  ev_plain [.string ⟨#[48]⟩, .int .i64 n] _ _ (enters_of Tryz.func60 (by kernel_rfl) rfl) (rrep_str _) fun w Im _ =>
    (Tryz.strings_Repeat ⟨#[48]⟩ n w (by omega) (by show 1 * n ≤ _; omega)).mono fun e w' ⟨h1, h2⟩ => ⟨by rw [h1, show (⟨(Lib.repeatL (⟨#[48]⟩ : ByteArray).data.toList n).toArray⟩ : ByteArray) = dS (zer n) from dS_of (rep_zer n)], h2⟩
theorem drop_all {p : UInt8 → Bool} : ∀ {l : List UInt8}, (∀ b ∈ l, p b = true) → l.dropWhile p = []
  | [], _ => rfl
  | b :: l, h => by rw [List.dropWhile_cons_of_pos (h b (.head _))]; exact drop_all fun c hc => h c (.tail _ hc)
theorem trim_none {l cs : List UInt8} (h : ∀ b ∈ l, b ∈ cs) : Lib.trimS l cs = [] := by
  have h1 : Lib.trimRightS l cs = [] := by
    unfold Lib.trimRightS
    rw [drop_all fun b hb => by simpa using h b (by simpa using hb)]
    rfl
  rw [Lib.trimS, h1]; rfl
theorem trim_ev (l : List Nat) (cs : ByteArray) (hl : l.length ≤ 1000) (hcs : cs.size ≤ 1000) (hc : cs.data.toList.all (fun b => decide (b.toNat < 128)) = true) (h : ∀ d ∈ l, UInt8.ofNat (48 + d) ∈ cs.data.toList) : Ev Tryz.prog 34 [Str (dS l), Str cs] (Str ⟨#[]⟩) :=
  ev_plain [.string (dS l), .string cs] _ _ (enters_of Tryz.func34 (by kernel_rfl) rfl) (rrep_str _) fun w Im _ =>
    (Tryz.strings_Trim_laid (dS l) cs w (by rw [dS_size]; omega) (by omega) (fun _ b hb => of_decide_eq_true (List.all_eq_true.1 hc b (List.mem_of_getElem? hb)))).mono fun e w' ⟨h1, h2⟩ => ⟨by
      rw [h1, trim_none fun b hb => by
        rw [dS_list] at hb
        obtain ⟨d, hd, rfl⟩ := List.mem_map.1 hb
        exact h d hd], h2⟩
abbrev digC10 : ByteArray := ⟨#[48, 49, 50, 51, 52, 53, 54, 55, 56, 57]⟩
theorem trimD_ev (l : List Nat) (h : Dig l) (hl : l.length ≤ 1000) : Ev Tryz.prog 34 [Str (dS l), Str digC10] (Str ⟨#[]⟩) :=
  trim_ev l digC10 hl (by decide) (by decide) fun d hd => by
    have := h d hd
    have : ∀ d, d < 10 → UInt8.ofNat (48 + d) ∈ digC10.data.toList := by decide
    exact this d (h d hd)
theorem trim0_ev (n : Nat) (hn : n ≤ 1000) : Ev Tryz.prog 34 [Str (dS (zer n)), Str ⟨#[48]⟩] (Str ⟨#[]⟩) :=
  trim_ev (zer n) ⟨#[48]⟩ (by rw [List.length_replicate]; exact hn) (by decide) (by decide) fun d hd => by rw [List.eq_of_mem_replicate hd]; decide
end Go.Proofs.YtndhglacgiidbaaGreatDoor
set_option maxRecDepth 100000
namespace Go.Proofs.YtndhglacgiidbaaGreatDoor
open Go.Vai Go Go.Proofs
open Nat (reduceEqDiff reduceMul reduceAdd reduceDiv reduceLeDiff)
open Int (reduceToNat reduceNe reduceEq reduceLT reduceLE)
theorem mo : Tryz.prog.follows .mixedOrders = true := by kernel_rfl
abbrev BP (b : Bk) : AV := .agg [I b.f, I b.t, I b.c]
abbrev BL (l : List Bk) : AV := .sl 3 (l.map BP)
abbrev RP (r : Rg) : AV := .agg [I r.1, I r.2]
abbrev RL (l : List Rg) : AV := .sl 2 (l.map RP)
section
variable (p : Nat → Bool) (l : List Bk) (m : List Rg)
@[go_sem] theorem namesL_BP : AV.namesL p (l.map BP) = false := namesL_map p l BP fun _ => rfl
@[go_sem] theorem flatL_BP : AV.flatL (l.map BP) = true := flatL_map l BP fun _ => rfl
@[go_sem] theorem allOK_BP : allOK 3 (l.map BP) = true := allOK_map 3 l BP fun _ => ⟨rfl, rfl⟩
@[go_sem] theorem append_BP (a b c : Int) : l.map BP ++ [.agg [.v (.int .i64 a), .v (.int .i64 b), .v (.int .i64 c)]] = (l ++ [(⟨a, b, c⟩ : Bk)]).map BP := by simp
@[go_sem] theorem namesL_RP : AV.namesL p (m.map RP) = false := namesL_map p m RP fun _ => rfl
@[go_sem] theorem flatL_RP : AV.flatL (m.map RP) = true := flatL_map m RP fun _ => rfl
@[go_sem] theorem allOK_RP : allOK 2 (m.map RP) = true := allOK_map 2 m RP fun _ => ⟨rfl, rfl⟩
@[go_sem] theorem append_RP (a b : Int) : m.map RP ++ [.agg [.v (.int .i64 a), .v (.int .i64 b)]] = (m ++ [(a, b)]).map RP := by simp
end
theorem isRange_ev (f t : Int) : Ev Tryz.prog 72 [.agg [I f, I t]] (B (decide (rOK f t))) := by
  refine ev_of Tryz.func72 rfl (by kernel_rfl) mo (Nat.le_of_ble_eq_true rfl) ?_
  simp -implicitDefEqProofs (disch := omega) only [go_sem, Tryz.ntmps72]
  refine branch_mk (fun h1 => ?_) (fun h1 => ?_)
  · simp -implicitDefEqProofs (disch := omega) only [go_sem, h1]
    refine branch_mk (fun h2 => ?_) (fun h2 => ?_)
    · simp -implicitDefEqProofs (disch := omega) only [go_sem, h2, Tryz.results72]
      simp [rOK, h1, h2]
    · simp -implicitDefEqProofs (disch := omega) only [go_sem, h2, Tryz.results72]
      simp [rOK]; omega
  · simp -implicitDefEqProofs (disch := omega) only [go_sem, h1, Tryz.results72]
    simp [rOK]; omega
theorem isCarrier_ev (c : Int) : Ev Tryz.prog 73 [I c] (B (decide (cOK c))) := by
  refine ev_of Tryz.func73 rfl (by kernel_rfl) mo (Nat.le_of_ble_eq_true rfl) ?_
  simp -implicitDefEqProofs (disch := omega) only [go_sem, Tryz.ntmps73]
  refine branch_mk (fun h1 => ?_) (fun h1 => ?_)
  · simp -implicitDefEqProofs (disch := omega) only [go_sem, h1, Tryz.results73]
    simp [cOK]; try omega
  · simp -implicitDefEqProofs (disch := omega) only [go_sem, h1, Tryz.results73]
    simp [cOK]; omega
theorem over_ev (x y : Int) : Ev Tryz.prog 105 [I x, I y] (I (overF x y)) := by
  refine ev_of Tryz.func105 rfl (by kernel_rfl) mo (Nat.le_of_ble_eq_true rfl) ?_
  simp -implicitDefEqProofs (disch := omega) only [go_sem, Tryz.ntmps105]
  refine branch_mk (fun h1 => ?_) (fun h1 => ?_)
  · simp -implicitDefEqProofs (disch := omega) only [go_sem, h1, Tryz.results105]
    simp [overF, h1]
  · simp -implicitDefEqProofs (disch := omega) only [go_sem, h1, Tryz.results105]
    simp [overF]; omega
theorem away_ev (x y : Int) : Ev Tryz.prog 104 [I x, I y] (I (awayF x y)) := by
  refine ev_of Tryz.func104 rfl (by kernel_rfl) mo (Nat.le_of_ble_eq_true rfl) ?_
  simp -implicitDefEqProofs (disch := omega) only [go_sem, Tryz.ntmps104]
  refine branch_mk (fun h1 => ?_) (fun h1 => ?_)
  · simp -implicitDefEqProofs (disch := omega) only [go_sem, h1, Tryz.results104]
    simp [awayF, h1]
  · simp -implicitDefEqProofs (disch := omega) only [go_sem, h1, Tryz.results104]
    simp [awayF, h1]
theorem on_ev (f t c : Int) : Ev Tryz.prog 103 [.agg [I f, I t], I c] (BL [⟨f, t, c⟩]) := by
  refine ev_sl (r := .new 99 3 [BP ⟨f, t, c⟩]) ?_ _
  refine ev_of Tryz.func103 rfl (by kernel_rfl) mo (Nat.le_of_ble_eq_true rfl) ?_
  simp -implicitDefEqProofs (disch := omega) only [go_sem, Tryz.ntmps103, Tryz.results103]
theorem at_ev (l : List Bk) (p : Int) (hl : l.length ≤ 1000000) : Ev Tryz.prog 150 [BL l, I p] (.tup [BL (atB l p).1, I (atB l p).2.1, I (atB l p).2.2]) := by
  suffices key : ∀ R, (dropT l p = [] → R = .tup [.new 99 3 [], I (-1), I 100000000]) → (∀ b r, dropT l p = b :: r → R = .tup [BL (b :: r), if p < b.f then I (-1) else I b.c, if p < b.f then I b.f else I b.t]) → Ev Tryz.prog 150 [BL l, I p] R by
    unfold atB
    cases hd : dropT l p with
    | nil => exact ev_sl (key (.tup [.new 99 3 [], I (-1), I 100000000]) (fun _ => rfl) fun b r h => by rw [hd] at h; cases h) _
    | cons b r =>
      refine key _ (fun h => by rw [hd] at h; cases h) fun b' r' h => ?_
      rw [hd] at h; cases h
      by_cases hb : p < b.f
      · simp only [hb, if_true]
      · simp only [hb, if_false]
  intro R hR0 hR1
  refine ev_of Tryz.func150 rfl (by kernel_rfl) mo (Nat.le_of_ble_eq_true rfl) ?_
  simp -implicitDefEqProofs (disch := omega) only [go_sem, Tryz.ntmps150]
  refine loop_join 0 (fun E σ => E 0 = BL (dropT l p) ∧ E 1 = I p) ?_ ?_
  · refine loopC_mk (fun n E σ => ∃ m : List Bk, n = m.length ∧ m.length ≤ 1000000 ∧ dropT l p = dropT m p ∧ E 0 = BL m ∧ E 1 = I p) l.length ⟨l, rfl, hl, rfl, ?_⟩ ?_
    · simp -implicitDefEqProofs (disch := omega) only [go_sem, and_self]
    rintro n E σ ⟨m, hn, hm, hd, e0, e1⟩
    simp -implicitDefEqProofs (disch := omega) only [go_sem, e0, e1]
    refine branch_mk (fun hc => ?_) (fun hc => ?_)
    · cases m with
      | nil => simp at hc
      | cons b r =>
        rw [dropT] at hd
        simp -implicitDefEqProofs (disch := omega) only [go_sem, e0, e1]
        refine branch_mk (fun ht => ?_) (fun ht => ?_)
        · rw [if_pos ht] at hd
          simp only [List.length_cons] at hn hm
          simp -implicitDefEqProofs (disch := omega) only [go_sem, e0, e1]
          refine againQ_mk r.length (by omega) ⟨r, rfl, by omega, hd, ?_⟩
          simp -implicitDefEqProofs (disch := omega) only [go_sem, e0, e1]
          try simp
        · rw [if_neg ht] at hd
          simp -implicitDefEqProofs (disch := omega) only [go_sem, e0, e1, hd]
    · simp -implicitDefEqProofs (disch := omega) only [go_sem, e0, e1]
      have : m = [] := List.eq_nil_of_length_eq_zero (by omega)
      subst this
      rw [show dropT l p = [] from hd]
  rintro E σ ⟨e0, e1⟩
  have hml := dropT_len l p
  generalize dropT l p = m at *
  simp -implicitDefEqProofs (disch := omega) only [go_sem, e0, e1]
  cases m with
  | nil =>
    rw [hR0 rfl]
    refine branch_l (by simp) ?_
    simp -implicitDefEqProofs (disch := omega) only [go_sem, e0, e1, Tryz.results150]
  | cons b r =>
    rw [hR1 b r rfl]
    refine branch_r (by simp; omega) ?_
    simp only [List.length_cons] at hml
    simp -implicitDefEqProofs (disch := omega) only [go_sem, e0, e1]
    refine branch_mk (fun hb => ?_) (fun hb => ?_)
    · simp -implicitDefEqProofs (disch := omega) only [go_sem, e0, e1, hb, Tryz.results150]
      rfl
    · simp -implicitDefEqProofs (disch := omega) only [go_sem, e0, e1, hb, Tryz.results150]
      rfl
end Go.Proofs.YtndhglacgiidbaaGreatDoor
set_option maxRecDepth 100000
namespace Go.Proofs.YtndhglacgiidbaaGreatDoor
open Go.Vai Go Go.Proofs
open Nat (reduceEqDiff reduceMul reduceAdd reduceDiv reduceLeDiff)
open Int (reduceToNat reduceNe reduceEq reduceLT reduceLE)
def badB (z b : Bk) : Prop := ¬ (rOK b.f b.t ∧ cOK b.c ∧ z.t ≤ b.f ∧ ¬ (b.f = z.t ∧ b.c = z.c))
instance (z b : Bk) : Decidable (badB z b) := inferInstanceAs (Decidable (¬ _))
def vIdx : List Bk → Bk → Nat → Int
  | [], _, _ => -1
  | b :: l, z, v => if badB z b then v else vIdx l b (v + 1)
def vEnd : List Bk → Bk → Bk
  | [], z => z
  | b :: l, z => if badB z b then b else vEnd l b
theorem vIdx_neg : ∀ (l : List Bk) (z : Bk) (v : Nat), vIdx l z v < 0 ↔ canon z.t z.c l
  | [], _, _ => ⟨fun _ => trivial, fun _ => by rw [vIdx]; decide⟩
  | b :: l, z, v => by
    rw [vIdx]
    by_cases h : badB z b
    · rw [if_pos h]
      exact ⟨fun hh => by omega, fun ⟨h1, h2, h3, h4, _⟩ => (h ⟨h1, h2, h3, h4⟩).elim⟩
    · rw [if_neg h, vIdx_neg l b]
      have h := Decidable.not_not.1 h
      exact ⟨fun hh => ⟨h.1, h.2.1, h.2.2.1, h.2.2.2, hh⟩, fun hh => hh.2.2.2.2⟩
abbrev vL (z : Bk) : List (Nat × Blk) := [(98566192, ⟨99, 3, [BP z]⟩)]
set_option maxHeartbeats 1000000 in
theorem bad_lok (z b : Bk) : LOK Tryz.prog 71 (inI [98566192]) [BP b, .ptr 98566192 3 0 0] (stO (vL z)) (B (decide (badB z b))) (stO (vL b)) := by
  refine lok_of [98566192] Tryz.func71 rfl (by kernel_rfl) mo (Nat.le_of_ble_eq_true rfl) rfl (by kernel_rfl) (by kernel_rfl) ?_
  simp -implicitDefEqProofs (disch := omega) only [go_sem, Tryz.ntmps71]
  refine callC_at (isRange_ev b.f b.t) ?_
  simp -implicitDefEqProofs (disch := omega) only [go_sem]
  refine branch_mk (fun h1 => ?_) (fun h1 => ?_)
  · rw [show decide (badB z b) = true from decide_eq_true fun h => h1 h.1]
    simp -implicitDefEqProofs (disch := omega) only [go_sem, h1, Tryz.results71]
    try simp
  have h1 : rOK b.f b.t := by simpa using h1
  simp -implicitDefEqProofs (disch := omega) only [go_sem, h1]
  refine callC_at (isCarrier_ev b.c) ?_
  simp -implicitDefEqProofs (disch := omega) only [go_sem, h1]
  refine branch_mk (fun h2 => ?_) (fun h2 => ?_)
  · rw [show decide (badB z b) = true from decide_eq_true fun h => h2 h.2.1]
    simp -implicitDefEqProofs (disch := omega) only [go_sem, h2, Tryz.results71]
    try simp
  have h2 : cOK b.c := by simpa using h2
  simp -implicitDefEqProofs (disch := omega) only [go_sem, h1, h2]
  refine branch_mk (fun h3 => ?_) (fun h3 => ?_)
  · rw [show decide (badB z b) = true from decide_eq_true fun h => by have := h.2.2.1; omega]
    simp -implicitDefEqProofs (disch := omega) only [go_sem, h3, Tryz.results71]
    try simp
  simp -implicitDefEqProofs (disch := omega) only [go_sem, h1, h2, h3, Tryz.results71]
  by_cases h4 : b.f = z.t ∧ b.c = z.c
  · rw [show decide (badB z b) = true from decide_eq_true fun h => h.2.2.2 h4]
    simp [h4.1, h4.2]
  · rw [show decide (badB z b) = false from decide_eq_false fun h => h ⟨h1, h2, by omega, h4⟩]
    simp
    omega
end Go.Proofs.YtndhglacgiidbaaGreatDoor
set_option maxRecDepth 100000
namespace Go.Proofs.YtndhglacgiidbaaGreatDoor
open Go.Vai Go Go.Proofs
open Nat (reduceEqDiff reduceMul reduceAdd reduceDiv reduceLeDiff)
open Int (reduceToNat reduceNe reduceEq reduceLT reduceLE)
abbrev VC : AV := .clo 71 [.ptr 98566192 3 0 0]
theorem vIdx_lok (l : List Bk) (z : Bk) (hl : l.length ≤ 1000000) : LOK Tryz.prog 44 (inI [98566192]) [BL l, VC] (stO (vL z)) (I (vIdx l z 0)) (stO (vL (vEnd l z))) := by
  refine lok_of [98566192] Tryz.func44 rfl (by kernel_rfl) mo (Nat.le_of_ble_eq_true rfl) rfl (by kernel_rfl) (by kernel_rfl) ?_
  simp -implicitDefEqProofs (disch := omega) only [go_sem, Tryz.ntmps44]
  refine loopC_mk (fun n E σ => ∃ (m : List Bk) (y : Bk) (i : Nat), n = m.length ∧ i + m.length = l.length ∧ l.drop i = m ∧ vIdx l z 0 = vIdx m y i ∧ vEnd l z = vEnd m y ∧ E 0 = BL l ∧ E 1 = VC ∧ E 7 = I l.length ∧ E 8 = I i ∧ σ 98566192 = some ⟨99, 3, [BP y]⟩) l.length ⟨l, z, 0, rfl, by omega, rfl, rfl, rfl, ?_⟩ ?_
  · simp -implicitDefEqProofs (disch := omega) only [go_sem]
    rfl
  rintro n E σ ⟨m, y, i, hn, hi, hd, hx, he, e0, e1, e7, e8, m0⟩
  simp -implicitDefEqProofs (disch := omega) only [go_sem, e0, e1, e7, e8, m0]
  refine branch_mk (fun hc => ?_) (fun hc => ?_)
  · cases m with
    | nil => simp at hi; omega
    | cons b r =>
      have hg : gd l i = b := by have := List.getElem?_drop (xs := l) (i := i) (j := 0); rw [hd] at this; simp at this; unfold gd; rw [List.getD_eq_getElem?_getD, ← this]; rfl
      have hd' : l.drop (i + 1) = r := by rw [← List.drop_drop, hd]; rfl
      simp only [List.length_cons] at hn hi
      simp -implicitDefEqProofs (disch := omega) only [go_sem, e0, e1, e7, e8, m0, hg]
      refine callC_sem rfl ?_
      refine lent_mk [98566192] (show LOK _ _ _ ([BP b] ++ [.ptr 98566192 3 0 0]) _ _ _ from bad_lok y b) ?_ ?_ ?_ ?_ ?_ ?_ ?_
      · simp -implicitDefEqProofs (disch := omega) only [go_sem, e0, e1, e7, e8, m0, hg]
      · simp -implicitDefEqProofs (disch := omega) only [go_sem, e0, e1, e7, e8, m0, hg]
      · simp -implicitDefEqProofs (disch := omega) only [go_sem, e0, e1, e7, e8, m0, hg]
      · simp -implicitDefEqProofs (disch := omega) only [go_sem, e0, e1, e7, e8, m0, hg]
      · simp -implicitDefEqProofs (disch := omega) only [go_sem, e0, e1, e7, e8, m0, hg]
      · simp -implicitDefEqProofs (disch := omega) only [go_sem, e0, e1, e7, e8, m0, hg]
      · simp -implicitDefEqProofs (disch := omega) only [go_sem, e0, e1, e7, e8, m0, hg]
        rw [vIdx] at hx
        rw [vEnd] at he
        refine branch_mk (fun hb => ?_) (fun hb => ?_)
        · have hb : badB y b := by simpa using hb
          rw [if_pos hb] at hx he
          simp -implicitDefEqProofs (disch := omega) only [go_sem, e0, e1, e7, e8, m0, hx, he, Tryz.results44]
        · have hb : ¬ badB y b := by simpa using hb
          rw [if_neg hb] at hx he
          simp -implicitDefEqProofs (disch := omega) only [go_sem, e0, e1, e7, e8, m0]
          refine againQ_mk r.length (by omega) ⟨r, b, i + 1, rfl, by omega, hd', hx, he, ?_⟩
          simp -implicitDefEqProofs (disch := omega) only [go_sem, e0, e1, e7, e8, m0]
          rfl
  · cases m with
    | cons b r => simp at hi; omega
    | nil =>
      rw [vIdx] at hx
      rw [vEnd] at he
      simp -implicitDefEqProofs (disch := omega) only [go_sem, e0, e1, e7, e8, m0, hx, he, Tryz.results44]
theorem has_lok (l : List Bk) (z : Bk) (hl : l.length ≤ 1000000) : LOK Tryz.prog 74 (inI [98566192]) [BL l, VC] (stO (vL z)) (B (decide (vIdx l z 0 ≥ 0))) (stO (vL (vEnd l z))) := by
  refine lok_of [98566192] Tryz.func74 rfl (by kernel_rfl) mo (Nat.le_of_ble_eq_true rfl) rfl (by kernel_rfl) (by kernel_rfl) ?_
  simp -implicitDefEqProofs (disch := omega) only [go_sem, Tryz.ntmps74]
  refine callC_sem rfl ?_
  refine lent_mk [98566192] (show LOK _ _ _ ([BL l, VC] ++ []) _ _ _ from vIdx_lok l z hl) ?_ ?_ ?_ ?_ ?_ ?_ ?_
  · simp -implicitDefEqProofs (disch := omega) only [go_sem]
  · simp -implicitDefEqProofs (disch := omega) only [go_sem]
  · simp -implicitDefEqProofs (disch := omega) only [go_sem]
  · simp -implicitDefEqProofs (disch := omega) only [go_sem]
  · simp -implicitDefEqProofs (disch := omega) only [go_sem]
  · simp -implicitDefEqProofs (disch := omega) only [go_sem]
  · simp -implicitDefEqProofs (disch := omega) only [go_sem, Tryz.results74]
theorem valid_ev (l : List Bk) (hl : l.length ≤ 1000000) : Ev Tryz.prog 46 [BL l] (B (validB l)) := by
  have hv : validB l = (decide (l.length ≤ 40) && !decide (vIdx l ⟨0, 0, -1⟩ 0 ≥ 0)) := by
    unfold validB
    have := vIdx_neg l ⟨0, 0, -1⟩ 0
    have e : decide (canon 0 (-1) l) = !decide (vIdx l ⟨0, 0, -1⟩ 0 ≥ 0) := by
      by_cases h : canon 0 (-1) l
      · have := this.2 h
        simp [h]; omega
      · have h' : ¬ vIdx l ⟨0, 0, -1⟩ 0 < 0 := fun hh => h (this.1 hh)
        simp [h]; omega
    rw [e]
  rw [hv]
  refine ev_of Tryz.func46 rfl (by kernel_rfl) mo (Nat.le_of_ble_eq_true rfl) ?_
  simp -implicitDefEqProofs (disch := omega) only [go_sem, Tryz.ntmps46]
  refine branch_mk (fun hc => ?_) (fun hc => ?_)
  · simp -implicitDefEqProofs (disch := omega) only [go_sem]
    refine callC_sem rfl ?_
    refine lent_mk [98566192] (show LOK _ _ _ ([BL l, VC] ++ []) _ _ _ from has_lok l ⟨0, 0, -1⟩ hl) ?_ ?_ ?_ ?_ ?_ ?_ ?_
    · simp -implicitDefEqProofs (disch := omega) only [go_sem]
    · simp -implicitDefEqProofs (disch := omega) only [go_sem]
    · simp -implicitDefEqProofs (disch := omega) only [go_sem]
    · simp -implicitDefEqProofs (disch := omega) only [go_sem]
    · simp -implicitDefEqProofs (disch := omega) only [go_sem]
    · simp -implicitDefEqProofs (disch := omega) only [go_sem]
    · simp -implicitDefEqProofs (disch := omega) only [go_sem, Tryz.results46]
      rw [show decide (l.length ≤ 40) = true from decide_eq_true (by omega)]; simp
  · simp -implicitDefEqProofs (disch := omega) only [go_sem, Tryz.results46]
    rw [show decide (l.length ≤ 40) = false from decide_eq_false (by omega)]; simp
end Go.Proofs.YtndhglacgiidbaaGreatDoor
set_option maxRecDepth 100000
namespace Go.Proofs.YtndhglacgiidbaaGreatDoor
open Go.Vai Go Go.Proofs
open Nat (reduceEqDiff reduceMul reduceAdd reduceDiv reduceLeDiff)
open Int (reduceToNat reduceNe reduceEq reduceLT reduceLE)
theorem has1_ev (b : Bk) (n : Int) : Ev Tryz.prog 45 [BP b, .pt (I n) 0] (B (decide (b.has n))) := by
  refine ev_of Tryz.func45 rfl (by kernel_rfl) mo (Nat.le_of_ble_eq_true rfl) ?_
  simp -implicitDefEqProofs (disch := omega) only [go_sem, Tryz.ntmps45]
  refine branch_mk (fun h1 => ?_) (fun h1 => ?_)
  · simp -implicitDefEqProofs (disch := omega) only [go_sem, h1, Tryz.results45]
    simp [Bk.has, h1]
  · simp -implicitDefEqProofs (disch := omega) only [go_sem, h1, Tryz.results45]
    simp [Bk.has, h1]
def fIdx : List Bk → Int → Nat → Int
  | [], _, _ => -1
  | b :: l, n, v => if b.has n then v else fIdx l n (v + 1)
theorem fIdx_spec : ∀ (l : List Bk) (n : Int) (v : Nat), (fIdx l n v = -1 ∧ holdB l n = -1) ∨ ∃ i : Nat, i < l.length ∧ fIdx l n v = ((v + i : Nat) : Int) ∧ holdB l n = (gd l i).c
  | [], _, _ => .inl ⟨rfl, rfl⟩
  | b :: l, n, v => by
    rw [fIdx, holdB]
    by_cases h : b.has n
    · rw [if_pos h, if_pos h]
      exact .inr ⟨0, by simp, rfl, by rw [gd_cons_zero]⟩
    · rw [if_neg h, if_neg h]
      rcases fIdx_spec l n (v + 1) with h1 | ⟨i, h1, h2, h3⟩
      · exact .inl h1
      · exact .inr ⟨i + 1, by simpa using h1, by rw [h2]; congr 1; omega, by rw [gd_cons_succ]; exact h3⟩
theorem fIdx_ev (l : List Bk) (n : Int) (hl : l.length ≤ 1000000) : Ev Tryz.prog 44 [BL l, .clo 45 [.pt (I n) 0]] (I (fIdx l n 0)) := by
  refine ev_of Tryz.func44 rfl (by kernel_rfl) mo (Nat.le_of_ble_eq_true rfl) ?_
  simp -implicitDefEqProofs (disch := omega) only [go_sem, Tryz.ntmps44]
  refine loopC_mk (fun k E σ => ∃ (m : List Bk) (i : Nat), k = m.length ∧ i + m.length = l.length ∧ l.drop i = m ∧ fIdx l n 0 = fIdx m n i ∧ E 0 = BL l ∧ E 1 = .clo 45 [.pt (I n) 0] ∧ E 7 = I l.length ∧ E 8 = I i) l.length ⟨l, 0, rfl, by omega, rfl, rfl, ?_⟩ ?_
  · simp -implicitDefEqProofs (disch := omega) only [go_sem]
    rfl
  rintro k E σ ⟨m, i, hn, hi, hd, hx, e0, e1, e7, e8⟩
  simp -implicitDefEqProofs (disch := omega) only [go_sem, e0, e1, e7, e8]
  refine branch_mk (fun hc => ?_) (fun hc => ?_)
  · cases m with
    | nil => simp at hi; omega
    | cons b r =>
      have hg : gd l i = b := by have := List.getElem?_drop (xs := l) (i := i) (j := 0); rw [hd] at this; simp at this; unfold gd; rw [List.getD_eq_getElem?_getD, ← this]; rfl
      have hd' : l.drop (i + 1) = r := by rw [← List.drop_drop, hd]; rfl
      simp only [List.length_cons] at hn hi
      simp -implicitDefEqProofs (disch := omega) only [go_sem, e0, e1, e7, e8, hg]
      refine callC_at (has1_ev b n) ?_
      simp -implicitDefEqProofs (disch := omega) only [go_sem, e0, e1, e7, e8, hg]
      rw [fIdx] at hx
      refine branch_mk (fun hb => ?_) (fun hb => ?_)
      · have hb : b.has n := by simpa using hb
        rw [if_pos hb] at hx
        simp -implicitDefEqProofs (disch := omega) only [go_sem, e0, e1, e7, e8, hx, Tryz.results44]
      · have hb : ¬ b.has n := by simpa using hb
        rw [if_neg hb] at hx
        simp -implicitDefEqProofs (disch := omega) only [go_sem, e0, e1, e7, e8]
        refine againQ_mk r.length (by omega) ⟨r, i + 1, rfl, by omega, hd', hx, ?_⟩
        simp -implicitDefEqProofs (disch := omega) only [go_sem, e0, e1, e7, e8]
        rfl
  · cases m with
    | cons b r => simp at hi; omega
    | nil =>
      rw [fIdx] at hx
      simp -implicitDefEqProofs (disch := omega) only [go_sem, e0, e1, e7, e8, hx, Tryz.results44]
theorem find_ev (l : List Bk) (n : Int) (hv : validB l = true) : Ev Tryz.prog 15 [BL l, I n] (.tup [I (if holdB l n = -1 then 0 else holdB l n), B (decide (holdB l n ≠ -1))]) := by
  have hl := (validB_iff.1 hv).1
  have hin := hold_in (validB_iff.1 hv).2 n
  refine ev_of Tryz.func15 rfl (by kernel_rfl) mo (Nat.le_of_ble_eq_true rfl) ?_
  simp -implicitDefEqProofs (disch := omega) only [go_sem, Tryz.ntmps15]
  refine callC_sem rfl ?_
  refine freeze_op [33554480] ?_
  simp -implicitDefEqProofs (disch := omega) only [go_sem]
  refine callC_at (fIdx_ev l n (by omega)) ?_
  simp -implicitDefEqProofs (disch := omega) only [go_sem]
  rcases fIdx_spec l n 0 with ⟨h1, h2⟩ | ⟨i, h1, h2, h3⟩
  · simp -implicitDefEqProofs (disch := omega) only [go_sem, h1, h2, Tryz.results15]
  · rw [Nat.zero_add] at h2
    simp -implicitDefEqProofs (disch := omega) only [go_sem, h2]
    have hc := (canon_low (validB_iff.1 hv).2 _ (gd_mem _ i h1)).2.2.1
    rw [← h3] at hc
    refine branch_r (by omega) ?_
    simp -implicitDefEqProofs (disch := omega) only [go_sem, h2]
    refine callC_at (valid_ev l (by omega)) ?_
    simp -implicitDefEqProofs (disch := omega) only [go_sem, h2, hv]
    try refine branch_r (by simp) ?_
    simp -implicitDefEqProofs (disch := omega) only [go_sem, h2, h3, Tryz.results15]
    rw [h3] at hc
    rw [if_neg (by omega), decide_eq_true (by omega)]
end Go.Proofs.YtndhglacgiidbaaGreatDoor
set_option maxRecDepth 100000
namespace Go.Proofs.YtndhglacgiidbaaGreatDoor
open Go.Vai Go Go.Proofs
open Nat (reduceEqDiff reduceMul reduceAdd reduceDiv reduceLeDiff)
open Int (reduceToNat reduceNe reduceEq reduceLT reduceLE)
theorem pieces_ev (a b : List Bk) : Ev Tryz.prog 130 [BL a, BL b] (.clo 151 [.nptr 214 1 [.clo 150 []], .nptr 49 1 [BL a], .nptr 49 1 [BL b]]) := by
  refine ev_of Tryz.func130 rfl (by kernel_rfl) mo (Nat.le_of_ble_eq_true rfl) ?_
  simp -implicitDefEqProofs (disch := omega) only [go_sem, Tryz.ntmps130, Tryz.results130]
abbrev YP (q : Pc) : List AV := [RP (q.1, q.2.1), .agg [I q.2.2.1, I q.2.2.2]]
@[go_sem] theorem namesL_pcs (p : Nat → Bool) (l : List Pc) : AV.namesL p ((l.map YP).map .tup) = false := by
  rw [List.map_map]; exact namesL_map p l _ fun _ => rfl
theorem atB_len (a : List Bk) (p : Int) : (atB a p).1.length ≤ a.length := by
  have h := dropT_len a p
  unfold atB
  split
  · exact Nat.zero_le _
  · rename_i b l' e
    rw [e] at h
    split <;> exact h
end Go.Proofs.YtndhglacgiidbaaGreatDoor
set_option maxRecDepth 100000
namespace Go.Proofs.YtndhglacgiidbaaGreatDoor
open Go.Vai Go Go.Proofs
open Nat (reduceEqDiff reduceMul reduceAdd reduceDiv reduceLeDiff)
open Int (reduceToNat reduceNe reduceEq reduceLT reduceLE)
theorem pcs_sok (a b : List Bk) (ka kb : Int) (ha : canon 0 ka a) (hb : canon 0 kb b) (la : a.length ≤ 1000) (lb : b.length ≤ 1000) (c1 c2 c3 : Nat) (σ : Store) (n12 : (c1 = c2) = False) (n13 : (c1 = c3) = False) (n23 : (c2 = c3) = False)
    (h1 : σ c1 = some ⟨214, 1, [.clo 150 []]⟩) (h2 : σ c2 = some ⟨49, 1, [BL a]⟩) (h3 : σ c3 = some ⟨49, 1, [BL b]⟩)
    (r1 : c1 / 16 < 19922944 ∨ 20022944 ≤ c1 / 16) (r2 : c2 / 16 < 19922944 ∨ 20022944 ≤ c2 / 16) (r3 : c3 / 16 < 19922944 ∨ 20022944 ≤ c3 / 16) :
    SOK Tryz.prog 151 [.ptr c1 1 0 0, .ptr c2 1 0 0, .ptr c3 1 0 0] σ ((pcsN 100000000 a b 0).map YP) := by
  have n21 : (c2 = c1) = False := eq_false fun h => Eq.mp n12 h.symm
  have n31 : (c3 = c1) = False := eq_false fun h => Eq.mp n13 h.symm
  have n32 : (c3 = c2) = False := eq_false fun h => Eq.mp n23 h.symm
  have u1_6 : (c1 / 16 = 19922950) = False := eq_false (by omega)
  have u2_6 : (c2 / 16 = 19922950) = False := eq_false (by omega)
  have u3_6 : (c3 / 16 = 19922950) = False := eq_false (by omega)
  have u1_15 : (c1 / 16 = 19922959) = False := eq_false (by omega)
  have u2_15 : (c2 / 16 = 19922959) = False := eq_false (by omega)
  have u3_15 : (c3 / 16 = 19922959) = False := eq_false (by omega)
  have u1_24 : (c1 / 16 = 19922968) = False := eq_false (by omega)
  have u2_24 : (c2 / 16 = 19922968) = False := eq_false (by omega)
  have u3_24 : (c3 / 16 = 19922968) = False := eq_false (by omega)
  have u1_37 : (c1 / 16 = 19922981) = False := eq_false (by omega)
  have u2_37 : (c2 / 16 = 19922981) = False := eq_false (by omega)
  have u3_37 : (c3 / 16 = 19922981) = False := eq_false (by omega)
  have v1 : (c1 = 318767200) = False := eq_false (by omega)
  have v2 : (c2 = 318767200) = False := eq_false (by omega)
  have v3 : (c3 = 318767200) = False := eq_false (by omega)
  have w1 : (318767200 = c1) = False := eq_false (by omega)
  have w2 : (318767200 = c2) = False := eq_false (by omega)
  have w3 : (318767200 = c3) = False := eq_false (by omega)
  refine sok_of Tryz.func151 rfl (by kernel_rfl) mo (Nat.le_of_ble_eq_true rfl) ?_ rfl fun l => ?_
  · exact namesL_pcs allB _
  simp -implicitDefEqProofs (disch := omega) only [go_sem, Tryz.ntmps151, h1, h2, h3]
  refine loopC_mk (fun n E σ => ∃ (a' b' : List Bk) (p e k k' : Int), (100000000 - p).toNat < n ∧ 0 ≤ p ∧ p ≤ 100000000 ∧ canon e k a' ∧ canon e k' b' ∧ a'.length ≤ 1000 ∧ b'.length ≤ 1000 ∧ E 0 = .yld l ∧ E 1 = .ptr c1 1 0 0 ∧ E 2 = .ptr c2 1 0 0 ∧ E 3 = .ptr c3 1 0 0 ∧ E 5 = I p ∧ E 40 = .tup (((pcsN (n - 1) a' b' p).map YP).map .tup) ∧
    σ c1 = some ⟨214, 1, [.clo 150 []]⟩ ∧ σ c2 = some ⟨49, 1, [BL a']⟩ ∧ σ c3 = some ⟨49, 1, [BL b']⟩) 100000001 ⟨a, b, 0, 0, ka, kb, by omega, by omega, by omega, ha, hb, la, lb, ?_⟩ ?_
  · simp -implicitDefEqProofs (disch := omega) only [go_sem, h1, h2, h3]
  clear h1 h2 h3 σ
  rintro n E σ ⟨a', b', p, e, k, k', hn, hp0, hp1, ca, cb, la', lb', e0, e1, e2, e3, e5, e40, h1, h2, h3⟩
  obtain ⟨m, rfl⟩ : ∃ m, n = m + 1 := ⟨n - 1, by omega⟩
  simp -implicitDefEqProofs (disch := omega) only [go_sem, e0, e1, e2, e3, e5, e40, h1, h2, h3, u1_6, u2_6, u3_6, u1_15, u2_15, u3_15, u1_24, u2_24, u3_24, u1_37, u2_37, u3_37, v1, v2, v3, w1, w2, w3, n12, n13, n23, n21, n31, n32, and_self]
  refine branch_mk (fun hp => ?_) (fun hp => ?_)
  · obtain ⟨q, rfl⟩ : ∃ q, m = q + 1 := ⟨m - 1, by omega⟩
    rw [Nat.add_sub_cancel, pcsN, if_pos (by omega)] at e40
    obtain ⟨⟨ka', a1⟩, _, a3, a4, _, _⟩ := atB_spec ca (p := p) (by omega)
    obtain ⟨⟨kb', b1⟩, _, b3, b4, _, _⟩ := atB_spec cb (p := p) (by omega)
    have al : (atB a' p).1.length ≤ 1000 := Nat.le_trans (atB_len a' p) la'
    have bl : (atB b' p).1.length ≤ 1000 := Nat.le_trans (atB_len b' p) lb'
    have eva := at_ev a' p (by omega)
    have evb := at_ev b' p (by omega)
    obtain ⟨A, hA⟩ : ∃ x, atB a' p = x := ⟨_, rfl⟩
    obtain ⟨A', hB⟩ : ∃ x, atB b' p = x := ⟨_, rfl⟩
    rw [hA] at eva al a1 a3 a4
    rw [hB] at evb bl b1 b3 b4
    rw [hA, hB] at e40
    clear hA hB
    obtain ⟨A1, A2, A3⟩ := A
    obtain ⟨B1, B2, B3⟩ := A'
    simp only at *
    simp -implicitDefEqProofs (disch := omega) only [go_sem, e0, e1, e2, e3, e5, e40, h1, h2, h3, u1_6, u2_6, u3_6, u1_15, u2_15, u3_15, u1_24, u2_24, u3_24, u1_37, u2_37, u3_37, v1, v2, v3, w1, w2, w3, n12, n13, n23, n21, n31, n32, and_self]
    refine callC_at eva ?_
    simp -implicitDefEqProofs (disch := omega) only [go_sem, e0, e1, e2, e3, e5, e40, h1, h2, h3, u1_6, u2_6, u3_6, u1_15, u2_15, u3_15, u1_24, u2_24, u3_24, u1_37, u2_37, u3_37, v1, v2, v3, w1, w2, w3, n12, n13, n23, n21, n31, n32, and_self]
    refine callC_at evb ?_
    have hmin : min A3 B3 = if B3 < A3 then B3 else A3 := by
      by_cases h : B3 < A3
      · rw [if_pos h, Int.min_eq_right (by omega)]
      · rw [if_neg h, Int.min_eq_left (by omega)]
    obtain ⟨M, hM⟩ : ∃ M, min A3 B3 = M := ⟨_, rfl⟩
    have hM1 : p < M ∧ M ≤ 100000000 := by rw [← hM, hmin]; split <;> omega
    rw [hM] at e40 hmin
    simp -implicitDefEqProofs (disch := omega) only [go_sem, e0, e1, e2, e3, e5, e40, h1, h2, h3, u1_6, u2_6, u3_6, u1_15, u2_15, u3_15, u1_24, u2_24, u3_24, u1_37, u2_37, u3_37, v1, v2, v3, w1, w2, w3, n12, n13, n23, n21, n31, n32, and_self, ← hmin]
    refine ⟨?_, ?_⟩
    · refine againQ_mk (q + 1) (by omega) ⟨A1, B1, M, e, ka', kb', by omega, by omega, by omega, a1, b1, al, bl, ?_⟩
      simp -implicitDefEqProofs (disch := omega) only [go_sem, e0, e1, e2, e3, e5, e40, h1, h2, h3, u1_6, u2_6, u3_6, u1_15, u2_15, u3_15, u1_24, u2_24, u3_24, u1_37, u2_37, u3_37, v1, v2, v3, w1, w2, w3, n12, n13, n23, n21, n31, n32, and_self]
      rfl
    · exact .inr trivial
  · rw [Nat.add_sub_cancel] at e40
    have he : pcsN m a' b' p = [] := by
      cases m with
      | zero => rfl
      | succ m => rw [pcsN, if_neg (by omega)]
    rw [he] at e40
    simp -implicitDefEqProofs (disch := omega) only [go_sem, e0, e1, e2, e3, e5, e40, h1, h2, h3, u1_6, u2_6, u3_6, u1_15, u2_15, u3_15, u1_24, u2_24, u3_24, u1_37, u2_37, u3_37, v1, v2, v3, w1, w2, w3, n12, n13, n23, n21, n31, n32, and_self]
    exact .inl trivial
end Go.Proofs.YtndhglacgiidbaaGreatDoor
set_option maxRecDepth 100000
namespace Go.Proofs.YtndhglacgiidbaaGreatDoor
open Go.Vai Go Go.Proofs
open Nat (reduceEqDiff reduceMul reduceAdd reduceDiv reduceLeDiff)
open Int (reduceToNat reduceNe reduceEq reduceLT reduceLE)
theorem pcsN_len : ∀ (n : Nat) (a b : List Bk) (p : Int), (pcsN n a b p).length ≤ n
  | 0, _, _, _ => Nat.le_refl _
  | n + 1, a, b, p => by
    rw [pcsN]
    split
    · rw [List.length_cons]; have := pcsN_len n (atB a p).1 (atB b p).1 (min (atB a p).2.2 (atB b p).2.2); omega
    · exact Nat.zero_le _
theorem cmbS_len (h : Int → Int → Int) (o : List Bk) (q : Pc) : (cmbS h o q).length ≤ o.length + 1 := by
  unfold cmbS
  split
  · omega
  · split
    · simp
    · simp
abbrev limR (o : List Bk) : AV := if o.length ≤ 40 then .tup [.new 99 3 (o.map BP), I 0] else .tup [.new 99 3 [], I 130]
set_option maxHeartbeats 4000000 in
theorem combine0_ev (h : Nat) (H : Int → Int → Int) (hh : ∀ x y, Ev Tryz.prog h [I x, I y] (I (H x y))) (a b : List Bk) (ka kb : Int) (ha : canon 0 ka a) (hb : canon 0 kb b) (la : a.length ≤ 1000) (lb : b.length ≤ 1000) : Ev Tryz.prog 102 [BL a, BL b, .clo h []] (limR (cmbF H a b)) := by
  have hpl := pcsN_len 100000000 a b 0
  unfold cmbF
  refine ev_of Tryz.func102 rfl (by kernel_rfl) mo (Nat.le_of_ble_eq_true rfl) ?_
  simp -implicitDefEqProofs (disch := omega) only [go_sem, Tryz.ntmps102]
  refine callC_at (pieces_ev a b) ?_
  simp -implicitDefEqProofs (disch := omega) only [go_sem]
  refine awpC_range ?_
  refine range_mk [216006896, 216006897, 216006898] [216006736, 216006784] 13500516 ((pcsN 100000000 a b 0).map YP)
    (fun xs σ => ∃ (r : List Pc) (o : List Bk) (x : Nat), (pcsN 100000000 a b 0).foldl (cmbS H) [] = r.foldl (cmbS H) o ∧ xs = r.map YP ∧ x = 216006785 ∧ o.length + r.length ≤ 100000000 ∧
      σ 216006736 = some ⟨28, 1, [.clo h []]⟩ ∧ σ 216006784 = some ⟨49, 1, [.own x 3 0 o.length]⟩ ∧ σ x = some ⟨99, 3, o.map BP⟩)
    (g := 151) (caps := [.ptr 216006896 1 0 0, .ptr 216006897 1 0 0, .ptr 216006898 1 0 0]) ?_ ?_ ?_ ?_ ?_ ?_ ?_ ?_
  · simp -implicitDefEqProofs (disch := omega) only [go_sem]
  · refine pcs_sok a b ka kb ha hb la lb _ _ _ _ (by simp) (by simp) (by simp) ?_ ?_ ?_ (by decide) (by decide) (by decide) <;> simp -implicitDefEqProofs (disch := omega) only [go_sem]
  · intro x hx
    obtain ⟨y, _, rfl⟩ := List.mem_map.1 hx
    rfl
  · simp -implicitDefEqProofs (disch := omega) only [go_sem]
  · simp -implicitDefEqProofs (disch := omega) only [go_sem]
  · refine ⟨_, [], 216006785, rfl, rfl, rfl, ?_, ?_⟩
    · simpa using hpl
    · simp -implicitDefEqProofs (disch := omega) only [go_sem]
  · rintro E0 hE0 y rest σ' ⟨r, o, x, hst, hxs, hx, hol, m5, m8, mx⟩
    have e5 : E0 5 = .ptr 216006736 1 0 0 := by rw [hE0]; simp -implicitDefEqProofs (disch := omega) only [go_sem]
    have e8 : E0 8 = .ptr 216006784 1 0 0 := by rw [hE0]; simp -implicitDefEqProofs (disch := omega) only [go_sem]
    clear hE0
    obtain ⟨q, r', rfl, rfl, rfl⟩ : ∃ q r', r = q :: r' ∧ y = YP q ∧ rest = r'.map YP := by
      cases r with
      | nil => cases hxs
      | cons q r' => simp only [List.map_cons, List.cons.injEq] at hxs; exact ⟨q, r', rfl, hxs.1, hxs.2⟩
    obtain ⟨p, t, u, v⟩ := q
    rw [List.foldl_cons] at hst
    have hcl := cmbS_len H o (p, t, u, v)
    rw [List.length_cons] at hol
    have hev := hh u v
    have hcs : cmbS H o (p, t, u, v) = if H u v = -1 then o
      else if 0 < o.length ∧ (gd o (o.length - 1)).t = p ∧ (gd o (o.length - 1)).c = H u v then o.set (o.length - 1) ⟨(gd o (o.length - 1)).f, t, (gd o (o.length - 1)).c⟩
      else o ++ [⟨p, t, H u v⟩] := rfl
    have hin : ∀ o' : List Bk, o'.length ≤ o.length + 1 → cmbS H o (p, t, u, v) = o' → o'.length + r'.length ≤ 100000000 := fun _ _ _ => by omega
    generalize cmbS H o (p, t, u, v) = o2 at *
    generalize H u v = k at *
    generalize hR : rQ _ _ E0 _ = R
    have hK : ∀ (E : Env) (σ : Store) (x' : Nat), x' = 216006785 → σ 216006736 = some ⟨28, 1, [.clo h []]⟩ → σ 216006784 = some ⟨49, 1, [.own x' 3 0 o2.length]⟩ → σ x' = some ⟨99, 3, o2.map BP⟩ → R .normal E σ := by
      intro E σ x' q1 q2 q3 q4
      rw [← hR]
      refine ⟨inL [], fun _ _ => rfl, ?_⟩
      rw [killS_nil]
      exact ⟨r', o2, x', hst, rfl, q1, by omega, q2, q3, q4⟩
    clear hR hst hcl hin
    have hx0 := hx
    subst hx
    all_goals
      simp -implicitDefEqProofs (disch := omega) only [go_sem, e5, e8, m5, m8, mx]
      refine callC_at hev ?_
      simp -implicitDefEqProofs (disch := omega) only [go_sem, e5, e8, m5, m8, mx]
      refine branch_mk (fun hk => ?_) (fun hk => ?_)
      · rw [if_pos hk] at hcs
        subst hcs
        simp (maxSteps := 4000000) -implicitDefEqProofs (disch := omega) only [go_sem, e5, e8, m5, m8, mx]
        refine hK _ _ _ hx0 ?_ ?_ ?_
        · simp -implicitDefEqProofs (disch := omega) only [go_sem, m5]
        · simp -implicitDefEqProofs (disch := omega) only [go_sem, m8]
        · simp -implicitDefEqProofs (disch := omega) only [go_sem, mx]
      · rw [if_neg (by omega)] at hcs
        simp -implicitDefEqProofs (disch := omega) only [go_sem, e5, e8, m5, m8, mx]
        refine branch_mk (fun h0 => ?_) (fun h0 => ?_)
        · have ht : ((o.length : Int) - 1).toNat = o.length - 1 := by omega
          simp -implicitDefEqProofs (disch := omega) only [go_sem, e5, e8, m5, m8, mx, ht]
          refine branch_mk (fun h1 => ?_) (fun h1 => ?_)
          · simp -implicitDefEqProofs (disch := omega) only [go_sem, e5, e8, m5, m8, mx, ht]
            refine branch_mk (fun h2 => ?_) (fun h2 => ?_)
            · rw [if_pos ⟨by omega, h1, h2⟩] at hcs
              have hl2 : o2.length = o.length := by rw [hcs]; simp
              rw [hl2] at hK
              simp (maxSteps := 4000000) -implicitDefEqProofs (disch := omega) only [go_sem, e5, e8, m5, m8, mx, ht]
              refine hK _ _ _ hx0 ?_ ?_ ?_
              · simp -implicitDefEqProofs (disch := omega) only [go_sem, m5]
              · simp -implicitDefEqProofs (disch := omega) only [go_sem, m8]
              · simp -implicitDefEqProofs (disch := omega) only [go_sem, mx, hcs, List.map_set, and_self]
            · rw [if_neg (fun h => h2 h.2.2)] at hcs
              have hl2 : o2.length = o.length + 1 := by rw [hcs]; simp
              rw [hl2] at hK
              simp (maxSteps := 4000000) -implicitDefEqProofs (disch := omega) only [go_sem, e5, e8, m5, m8, mx, ht]
              refine hK _ _ _ hx0 ?_ ?_ ?_
              · simp -implicitDefEqProofs (disch := omega) only [go_sem, m5]
              · simp -implicitDefEqProofs (disch := omega) only [go_sem, m8]
              · simp -implicitDefEqProofs (disch := omega) only [go_sem, mx, hcs]
          · rw [if_neg (fun h => h1 h.2.1)] at hcs
            have hl2 : o2.length = o.length + 1 := by rw [hcs]; simp
            rw [hl2] at hK
            simp (maxSteps := 4000000) -implicitDefEqProofs (disch := omega) only [go_sem, e5, e8, m5, m8, mx, ht]
            refine hK _ _ _ hx0 ?_ ?_ ?_
            · simp -implicitDefEqProofs (disch := omega) only [go_sem, m5]
            · simp -implicitDefEqProofs (disch := omega) only [go_sem, m8]
            · simp -implicitDefEqProofs (disch := omega) only [go_sem, mx, hcs]
        · rw [if_neg (fun h => h0 (by omega))] at hcs
          have hl2 : o2.length = o.length + 1 := by rw [hcs]; simp
          rw [hl2] at hK
          simp (maxSteps := 4000000) -implicitDefEqProofs (disch := omega) only [go_sem, e5, e8, m5, m8, mx]
          refine hK _ _ _ hx0 ?_ ?_ ?_
          · simp -implicitDefEqProofs (disch := omega) only [go_sem, m5]
          · simp -implicitDefEqProofs (disch := omega) only [go_sem, m8]
          · simp -implicitDefEqProofs (disch := omega) only [go_sem, mx, hcs]
  · rintro E0 hE0 σ' ⟨r, o, x, hst, hxs, hx, hol, m5, m8, mx⟩
    have e8 : E0 8 = .ptr 216006784 1 0 0 := by rw [hE0]; simp -implicitDefEqProofs (disch := omega) only [go_sem]
    clear hE0
    obtain rfl : r = [] := by
      cases r with
      | nil => rfl
      | cons q r' => cases hxs
    rw [hst, List.foldl_nil]
    clear hst
    subst hx
    all_goals
      simp -implicitDefEqProofs (disch := omega) only [go_sem, e8, m5, m8, mx]
      refine branch_mk (fun hc => ?_) (fun hc => ?_)
      · unfold limR
        rw [if_neg (by omega)]
        simp -implicitDefEqProofs (disch := omega) only [go_sem, e8, m5, m8, mx, Tryz.results102]
      · unfold limR
        rw [if_pos (by omega)]
        simp -implicitDefEqProofs (disch := omega) only [go_sem, e8, m5, m8, mx, Tryz.results102]
theorem combine_ev (h : Nat) (H : Int → Int → Int) (hh : ∀ x y, Ev Tryz.prog h [I x, I y] (I (H x y))) (a b : List Bk) (ka kb : Int) (ha : canon 0 ka a) (hb : canon 0 kb b) (la : a.length ≤ 1000) (lb : b.length ≤ 1000) : Ev Tryz.prog 102 [BL a, BL b, .clo h []] (.tup [BL ((lim (cmbF H a b)).getD []), I (if (lim (cmbF H a b)).isSome then 0 else 130)]) := by
  have := combine0_ev h H hh a b ka kb ha hb la lb
  unfold limR at this
  unfold lim
  split at this
  · rename_i hl
    rw [if_pos hl]
    exact ev_sl this _
  · rename_i hl
    rw [if_neg hl]
    exact ev_sl this _
end Go.Proofs.YtndhglacgiidbaaGreatDoor
set_option maxRecDepth 100000
namespace Go.Proofs.YtndhglacgiidbaaGreatDoor
open Go.Vai Go Go.Proofs
open Nat (reduceEqDiff reduceMul reduceAdd reduceDiv reduceLeDiff)
open Int (reduceToNat reduceNe reduceEq reduceLT reduceLE)
abbrev optR (o : Option (List Bk)) (e : Int) : AV := .tup [BL (o.getD []), I (if o.isSome then 0 else e)]
theorem give_ev (m : List Bk) (f t c : Int) (hl : m.length ≤ 1000) : Ev Tryz.prog 81 [BL m, .agg [I f, I t], I c] (optR (giveF m f t c) 130) := by
  suffices key : ∀ R, (¬ (validB m = true ∧ rOK f t ∧ cOK c) → R = .tup [.new 99 3 [], I 130]) → (validB m = true ∧ rOK f t ∧ cOK c → R = optR (lim (cmbF overF m [⟨f, t, c⟩])) 130) → Ev Tryz.prog 81 [BL m, .agg [I f, I t], I c] R by
    unfold giveF
    by_cases h : validB m = true ∧ rOK f t ∧ cOK c
    · rw [if_pos h]; exact key _ (fun h' => (h' h).elim) fun _ => rfl
    · rw [if_neg h]
      exact ev_sl (key _ (fun _ => rfl) fun h' => (h h').elim) _
  intro R hR0 hR1
  refine ev_of Tryz.func81 rfl (by kernel_rfl) mo (Nat.le_of_ble_eq_true rfl) ?_
  simp -implicitDefEqProofs (disch := omega) only [go_sem, Tryz.ntmps81]
  refine callC_at (valid_ev m (by omega)) ?_
  simp -implicitDefEqProofs (disch := omega) only [go_sem]
  refine branch_mk (fun h1 => ?_) (fun h1 => ?_)
  · rw [hR0 (fun h => by rw [h1] at h; cases h.1)]
    simp -implicitDefEqProofs (disch := omega) only [go_sem, h1, Tryz.results81]
  have h1 : validB m = true := by simpa using h1
  simp -implicitDefEqProofs (disch := omega) only [go_sem, h1]
  refine callC_at (isRange_ev f t) ?_
  simp -implicitDefEqProofs (disch := omega) only [go_sem, h1]
  refine branch_mk (fun h2 => ?_) (fun h2 => ?_)
  · rw [hR0 (fun h => h2 h.2.1)]
    simp -implicitDefEqProofs (disch := omega) only [go_sem, h2, Tryz.results81]
  have h2 : rOK f t := by simpa using h2
  simp -implicitDefEqProofs (disch := omega) only [go_sem, h1, h2]
  refine callC_at (isCarrier_ev c) ?_
  simp -implicitDefEqProofs (disch := omega) only [go_sem, h1, h2]
  refine branch_mk (fun h3 => ?_) (fun h3 => ?_)
  · rw [hR0 (fun h => h3 h.2.2)]
    simp -implicitDefEqProofs (disch := omega) only [go_sem, h3, Tryz.results81]
  have h3 : cOK c := by simpa using h3
  rw [hR1 ⟨h1, h2, h3⟩]
  simp -implicitDefEqProofs (disch := omega) only [go_sem, h1, h2, h3]
  refine callC_at (on_ev f t c) ?_
  simp -implicitDefEqProofs (disch := omega) only [go_sem]
  have hc := combine_ev 105 overF over_ev m [⟨f, t, c⟩] (-1) (-1) (validB_iff.1 h1).2 (one_canon h2 h3) hl (by simp)
  generalize lim (cmbF overF m [⟨f, t, c⟩]) = o at *
  refine callC_at hc ?_
  simp -implicitDefEqProofs (disch := omega) only [go_sem, Tryz.results81]
theorem take_ev (m : List Bk) (f t : Int) (hl : m.length ≤ 1000) : Ev Tryz.prog 80 [BL m, .agg [I f, I t]] (optR (takeF m f t) 130) := by
  suffices key : ∀ R, (¬ (validB m = true ∧ rOK f t) → R = .tup [.new 99 3 [], I 130]) → (validB m = true ∧ rOK f t → R = optR (lim (cmbF awayF m [⟨f, t, 0⟩])) 130) → Ev Tryz.prog 80 [BL m, .agg [I f, I t]] R by
    unfold takeF
    by_cases h : validB m = true ∧ rOK f t
    · rw [if_pos h]; exact key _ (fun h' => (h' h).elim) fun _ => rfl
    · rw [if_neg h]
      exact ev_sl (key _ (fun _ => rfl) fun h' => (h h').elim) _
  intro R hR0 hR1
  refine ev_of Tryz.func80 rfl (by kernel_rfl) mo (Nat.le_of_ble_eq_true rfl) ?_
  simp -implicitDefEqProofs (disch := omega) only [go_sem, Tryz.ntmps80]
  refine callC_at (valid_ev m (by omega)) ?_
  simp -implicitDefEqProofs (disch := omega) only [go_sem]
  refine branch_mk (fun h1 => ?_) (fun h1 => ?_)
  · rw [hR0 (fun h => by rw [h1] at h; cases h.1)]
    simp -implicitDefEqProofs (disch := omega) only [go_sem, h1, Tryz.results80]
  have h1 : validB m = true := by simpa using h1
  simp -implicitDefEqProofs (disch := omega) only [go_sem, h1]
  refine callC_at (isRange_ev f t) ?_
  simp -implicitDefEqProofs (disch := omega) only [go_sem, h1]
  refine branch_mk (fun h2 => ?_) (fun h2 => ?_)
  · rw [hR0 (fun h => h2 h.2)]
    simp -implicitDefEqProofs (disch := omega) only [go_sem, h2, Tryz.results80]
  have h2 : rOK f t := by simpa using h2
  rw [hR1 ⟨h1, h2⟩]
  simp -implicitDefEqProofs (disch := omega) only [go_sem, h1, h2]
  refine callC_at (on_ev f t 0) ?_
  simp -implicitDefEqProofs (disch := omega) only [go_sem]
  have hc := combine_ev 104 awayF away_ev m [⟨f, t, 0⟩] (-1) (-1) (validB_iff.1 h1).2 (one_canon h2 (by decide)) hl (by simp)
  generalize lim (cmbF awayF m [⟨f, t, 0⟩]) = o at *
  refine callC_at hc ?_
  simp -implicitDefEqProofs (disch := omega) only [go_sem, Tryz.results80]
end Go.Proofs.YtndhglacgiidbaaGreatDoor
set_option maxRecDepth 100000
namespace Go.Proofs.YtndhglacgiidbaaGreatDoor
open Go.Vai Go Go.Proofs
open Nat (reduceEqDiff reduceMul reduceAdd reduceDiv reduceLeDiff)
open Int (reduceToNat reduceNe reduceEq reduceLT reduceLE)
abbrev UP (u : Up) : AV := .agg [I u.f, I u.t, I u.c, I u.a]
abbrev UPS (l : List Up) : AV := .sl 4 (l.map UP)
section
variable (p : Nat → Bool) (l : List Up)
@[go_sem] theorem namesL_UP : AV.namesL p (l.map UP) = false := namesL_map p l UP fun _ => rfl
@[go_sem] theorem flatL_UP : AV.flatL (l.map UP) = true := flatL_map l UP fun _ => rfl
@[go_sem] theorem allOK_UP : allOK 4 (l.map UP) = true := allOK_map 4 l UP fun _ => ⟨rfl, rfl⟩
@[go_sem] theorem append_UP (a b c d : Int) : l.map UP ++ [.agg [.v (.int .i64 a), .v (.int .i64 b), .v (.int .i64 c), .v (.int .i64 d)]] = (l ++ [(⟨a, b, c, d⟩ : Up)]).map UP := by simp
end
theorem isIn_ev (n a b : Int) : Ev Tryz.prog 38 [I n, I a, I b] (B (decide (a ≤ n ∧ n ≤ b))) := by
  refine ev_of Tryz.func38 rfl (by kernel_rfl) mo (Nat.le_of_ble_eq_true rfl) ?_
  simp -implicitDefEqProofs (disch := omega) only [go_sem, Tryz.ntmps38]
  refine branch_mk (fun h1 => ?_) (fun h1 => ?_)
  · simp -implicitDefEqProofs (disch := omega) only [go_sem, h1, Tryz.results38]
    try simp [h1]
  · simp -implicitDefEqProofs (disch := omega) only [go_sem, h1, Tryz.results38]
    try simp [h1]
theorem maps_ev (l : List Up) : Ev Tryz.prog 51 [UPS l] (.clo 79 [.pt (UPS l) 0]) := by
  refine ev_sl (r := .clo 79 [.nptr 42 1 [UPS l]]) ?_ _
  refine ev_of Tryz.func51 rfl (by kernel_rfl) mo (Nat.le_of_ble_eq_true rfl) ?_
  simp -implicitDefEqProofs (disch := omega) only [go_sem, Tryz.ntmps51, Tryz.results51]
theorem stepU_len {m m' : List Bk} {u : Up} (h : stepU m u = some m') : m'.length ≤ 40 := (validB_iff.1 (step_spec h).2.1).1
def mpsX : List (List Bk) → Nat → List (List AV)
  | [], _ => []
  | m :: r, i => [I i, BL m] :: mpsX r (i + 1)
theorem namesL_mps (p : Nat → Bool) : ∀ (l : List (List Bk)) (i : Nat), AV.namesL p ((mpsX l i).map .tup) = false
  | [], _ => rfl
  | m :: r, i => by
    show AV.namesL p (.tup [I i, BL m] :: (mpsX r (i + 1)).map .tup) = false
    simp only [go_sem, namesL_mps p r (i + 1)]
    first | done | simp
attribute [go_sem] namesL_mps
theorem only_none (σ : Store) : only (inI []) σ = stO [] := by
  funext id
  simp [only, inI, stO]
theorem mpsX_len : ∀ (l : List (List Bk)) (i : Nat), ∀ x ∈ mpsX l i, x.length = 2
  | [], _, x, h => by cases h
  | m :: r, i, x, h => by
    rcases List.mem_cons.1 h with rfl | h
    · rfl
    · exact mpsX_len r (i + 1) x h
theorem mapsF_cons (m : List Bk) (l : List Up) : mapsF m l = m :: (mapsF m l).tail := by cases l <;> rfl
theorem mapsF_tail (m : List Bk) (u : Up) (l : List Up) : (mapsF m (u :: l)).tail = (match stepU m u with | none => [] | some m' => mapsF m' l) := rfl
end Go.Proofs.YtndhglacgiidbaaGreatDoor
set_option maxRecDepth 100000
namespace Go.Proofs.YtndhglacgiidbaaGreatDoor
open Go.Vai Go Go.Proofs
open Nat (reduceEqDiff reduceMul reduceAdd reduceDiv reduceLeDiff)
open Int (reduceToNat reduceNe reduceEq reduceLT reduceLE)
theorem maps_sok (l : List Up) (hl : l.length ≤ 1000) : SOK Tryz.prog 79 [.pt (UPS l) 0] (stO []) (mpsX (mapsF [] l) 0) := by
  refine sok_ofB [1] Tryz.func79 rfl (by kernel_rfl) mo (Nat.le_of_ble_eq_true rfl) rfl ?_ rfl fun y => ?_
  · exact namesL_mps allB _ _
  simp -implicitDefEqProofs (disch := omega) only [go_sem, Tryz.ntmps79]
  refine freeze_reg (spZ_mono _ _ _ _ _) [167772208] ?_
  have hfr : ∀ (L : Nat → Bool) (σ : Store), frz L (inL []) σ (.tup ((mpsX (mapsF [] l) 0).map .tup)) = .tup ((mpsX (mapsF [] l) 0).map .tup) := fun L σ => frz_free (c := .tup ((mpsX (mapsF [] l) 0).map .tup)) (namesL_mps allB _ _) L (inL []) σ
  rw [mapsF_cons] at hfr ⊢
  simp -implicitDefEqProofs (disch := omega) only [go_sem, mpsX] at hfr
  simp -implicitDefEqProofs (disch := omega) only [go_sem, mpsX, hfr]
  refine ⟨rfl, ?_, .inr trivial⟩
  refine loopC_mk (fun n E σ => ∃ (us : List Up) (m : List Bk) (i : Nat), n = us.length ∧ i + us.length = l.length ∧ l.drop i = us ∧ m.length ≤ 1000 ∧ E 0 = .yld y ∧ E 1 = .pt (UPS l) 0 ∧ E 3 = BL m ∧ E 11 = UPS l ∧ E 12 = I l.length ∧ E 13 = I i ∧ E 48 = .tup ((mpsX (mapsF m us).tail (i + 1)).map .tup)) l.length ⟨l, [], 0, rfl, by omega, rfl, by simp, ?_⟩ ?_
  · simp -implicitDefEqProofs (disch := omega) only [go_sem]
    exact ⟨rfl, rfl⟩
  rintro n E σ ⟨us, m, i, hn, hi, hd, hm, e0, e1, e3, e11, e12, e13, e48⟩
  simp -implicitDefEqProofs (disch := omega) only [go_sem, e0, e1, e3, e11, e12, e13, e48]
  refine branch_mk (fun hc => ?_) (fun hc => ?_)
  · cases us with
    | nil => simp at hi; omega
    | cons u r =>
      have hg : gd l i = u := by have := List.getElem?_drop (xs := l) (i := i) (j := 0); rw [hd] at this; simp at this; unfold gd; rw [List.getD_eq_getElem?_getD, ← this]; rfl
      have hd' : l.drop (i + 1) = r := by rw [← List.drop_drop, hd]; rfl
      simp only [List.length_cons] at hn hi
      rw [mapsF_tail] at e48
      have hst : stepU m u = if u.c = -1 then takeF m u.f u.t else giveF m u.f u.t u.c := rfl
      have hsl := fun m' => stepU_len (m := m) (m' := m') (u := u)
      simp -implicitDefEqProofs (disch := omega) only [go_sem, e0, e1, e3, e11, e12, e13, e48, hg]
      refine branch_mk (fun hu => ?_) (fun hu => ?_)
      · rw [if_pos hu] at hst
        simp -implicitDefEqProofs (disch := omega) only [go_sem, e0, e1, e3, e11, e12, e13, e48, hg, hu]
        have hev := take_ev m u.f u.t hm
        rw [hst] at e48
        have hsl := fun m' (h : takeF m u.f u.t = some m') => hsl m' (hst.trans h)
        generalize takeF m u.f u.t = o at *
        refine callC_at hev ?_
        cases o with
        | none =>
          have e48 : E 48 = .tup [] := e48
          simp -implicitDefEqProofs (disch := omega) only [go_sem, e0, e1, e3, e11, e12, e13, e48, hg, hu]
          exact .inl trivial
        | some m' =>
          have hm' := hsl m' rfl
          have e48 : E 48 = .tup ((mpsX (mapsF m' r) (i + 1)).map .tup) := e48
          rw [mapsF_cons] at e48
          simp -implicitDefEqProofs (disch := omega) only [go_sem, e0, e1, e3, e11, e12, e13, e48, hg, hu, mpsX, Option.getD_some, Option.isSome_some]
          refine ⟨rfl, ?_, .inr trivial⟩
          refine againQ_mk r.length (by omega) ⟨r, m', i + 1, rfl, by omega, hd', by omega, ?_⟩
          simp -implicitDefEqProofs (disch := omega) only [go_sem, e0, e1, e3, e11, e12, e13, e48, hg, hu]
          rfl
      · rw [if_neg hu] at hst
        simp -implicitDefEqProofs (disch := omega) only [go_sem, e0, e1, e3, e11, e12, e13, e48, hg, hu]
        have hev := give_ev m u.f u.t u.c hm
        rw [hst] at e48
        have hsl := fun m' (h : giveF m u.f u.t u.c = some m') => hsl m' (hst.trans h)
        generalize giveF m u.f u.t u.c = o at *
        refine callC_at hev ?_
        cases o with
        | none =>
          have e48 : E 48 = .tup [] := e48
          simp -implicitDefEqProofs (disch := omega) only [go_sem, e0, e1, e3, e11, e12, e13, e48, hg, hu]
          exact .inl trivial
        | some m' =>
          have hm' := hsl m' rfl
          have e48 : E 48 = .tup ((mpsX (mapsF m' r) (i + 1)).map .tup) := e48
          rw [mapsF_cons] at e48
          simp -implicitDefEqProofs (disch := omega) only [go_sem, e0, e1, e3, e11, e12, e13, e48, hg, hu, mpsX, Option.getD_some, Option.isSome_some]
          refine ⟨rfl, ?_, .inr trivial⟩
          refine againQ_mk r.length (by omega) ⟨r, m', i + 1, rfl, by omega, hd', by omega, ?_⟩
          simp -implicitDefEqProofs (disch := omega) only [go_sem, e0, e1, e3, e11, e12, e13, e48, hg, hu]
          rfl
  · cases us with
    | cons b r => simp at hi; omega
    | nil =>
      have e48 : E 48 = .tup [] := e48
      simp -implicitDefEqProofs (disch := omega) only [go_sem, e0, e1, e3, e11, e12, e13, e48]
      exact .inl trivial
end Go.Proofs.YtndhglacgiidbaaGreatDoor
set_option maxRecDepth 100000
namespace Go.Proofs.YtndhglacgiidbaaGreatDoor
open Go.Vai Go Go.Proofs
open Nat (reduceEqDiff reduceMul reduceAdd reduceDiv reduceLeDiff)
open Int (reduceToNat reduceNe reduceEq reduceLT reduceLE)
theorem tvalid_ev (l : List Up) (hl : l.length ≤ 1000) : Ev Tryz.prog 39 [UPS l] (B (validT l)) := by
  have hvt : validT l = (decide (l.length ≤ 40) && (timesB 0 l && decide ((mapsF [] l).length = l.length + 1))) := rfl
  have hpos := mapsF_pos [] l
  refine ev_of Tryz.func39 rfl (by kernel_rfl) mo (Nat.le_of_ble_eq_true rfl) ?_
  simp -implicitDefEqProofs (disch := omega) only [go_sem, Tryz.ntmps39]
  refine branch_mk (fun h0 => ?_) (fun h0 => ?_)
  · rw [hvt, show decide (l.length ≤ 40) = false from decide_eq_false (by omega), Bool.false_and]
    simp -implicitDefEqProofs (disch := omega) only [go_sem, Tryz.results39]
  rw [hvt, show decide (l.length ≤ 40) = true from decide_eq_true (by omega), Bool.true_and]
  simp -implicitDefEqProofs (disch := omega) only [go_sem]
  refine loopC_mk (fun n E σ => ∃ (us : List Up) (e : Int) (i : Nat), n = us.length ∧ i + us.length = l.length ∧ l.drop i = us ∧ timesB 0 l = timesB e us ∧ E 0 = UPS l ∧ E 3 = I e ∧ E 11 = UPS l ∧ E 12 = I l.length ∧ E 13 = I i) l.length ⟨l, 0, 0, rfl, by omega, rfl, rfl, ?_⟩ ?_
  · simp -implicitDefEqProofs (disch := omega) only [go_sem]
    rfl
  rintro n E σ ⟨us, e, i, hn, hi, hd, ht, e0, e3, e11, e12, e13⟩
  simp -implicitDefEqProofs (disch := omega) only [go_sem, e0, e3, e11, e12, e13]
  refine branch_mk (fun hc => ?_) (fun hc => ?_)
  · cases us with
    | nil => simp at hi; omega
    | cons u r =>
      have hg : gd l i = u := by have := List.getElem?_drop (xs := l) (i := i) (j := 0); rw [hd] at this; simp at this; unfold gd; rw [List.getD_eq_getElem?_getD, ← this]; rfl
      have hd' : l.drop (i + 1) = r := by rw [← List.drop_drop, hd]; rfl
      simp only [List.length_cons] at hn hi
      rw [timesB] at ht
      simp -implicitDefEqProofs (disch := omega) only [go_sem, e0, e3, e11, e12, e13, hg]
      refine callC_at (isIn_ev u.a e 10000000) ?_
      simp -implicitDefEqProofs (disch := omega) only [go_sem, e0, e3, e11, e12, e13, hg]
      refine branch_mk (fun h1 => ?_) (fun h1 => ?_)
      · have h1 : ¬ (e ≤ u.a ∧ u.a ≤ 10000000) := by simpa using h1
        rw [decide_eq_false h1, Bool.false_and] at ht
        rw [ht]
        simp -implicitDefEqProofs (disch := omega) only [go_sem, e0, e3, e11, e12, e13, hg, Tryz.results39]
      have h1 : e ≤ u.a ∧ u.a ≤ 10000000 := by simpa using h1
      rw [decide_eq_true h1, Bool.true_and] at ht
      simp -implicitDefEqProofs (disch := omega) only [go_sem, e0, e3, e11, e12, e13, hg]
      refine branch_mk (fun h2 => ?_) (fun h2 => ?_)
      · rw [show decide (-1 ≤ u.c) = false from decide_eq_false (by omega), Bool.false_and] at ht
        rw [ht]
        simp -implicitDefEqProofs (disch := omega) only [go_sem, e0, e3, e11, e12, e13, hg, Tryz.results39]
      rw [show decide (-1 ≤ u.c) = true from decide_eq_true (by omega), Bool.true_and] at ht
      simp -implicitDefEqProofs (disch := omega) only [go_sem, e0, e3, e11, e12, e13, hg]
      refine againQ_mk r.length (by omega) ⟨r, u.a, i + 1, rfl, by omega, hd', ht, ?_⟩
      simp -implicitDefEqProofs (disch := omega) only [go_sem, e0, e3, e11, e12, e13, hg]
      rfl
  · cases us with
    | cons b r => simp at hi; omega
    | nil =>
      rw [show timesB 0 l = true from ht, Bool.true_and]
      simp -implicitDefEqProofs (disch := omega) only [go_sem, e0]
      refine callC_at (maps_ev l) ?_
      simp -implicitDefEqProofs (disch := omega) only [go_sem, e0]
      refine awpC_range ?_
      refine range_mk [] [83886176] 5242980 (mpsX (mapsF [] l) 0)
        (fun xs σ => ∃ (ms : List (List Bk)) (i : Nat), xs = mpsX ms i ∧ i + ms.length = (mapsF [] l).length ∧ σ 83886176 = some ⟨3, 1, [I (i - 1 : Nat)]⟩)
        (g := 79) (caps := [.pt (UPS l) 0]) ?_ ?_ ?_ ?_ ?_ ?_ ?_ ?_
      · simp -implicitDefEqProofs (disch := omega) only [go_sem]
      · rw [only_none]; exact maps_sok l hl
      · exact mpsX_len _ _
      · simp -implicitDefEqProofs (disch := omega) only [go_sem]
      · simp -implicitDefEqProofs (disch := omega) only [go_sem]
      · refine ⟨_, 0, rfl, by omega, ?_⟩
        simp -implicitDefEqProofs (disch := omega) only [go_sem]
        rfl
      · rintro E0 hE0 y rest σ' ⟨ms, i, hx, hi, m6⟩
        have e6 : E0 6 = .ptr 83886176 1 0 0 := by rw [hE0]; simp -implicitDefEqProofs (disch := omega) only [go_sem]
        clear hE0
        cases ms with
        | nil => cases hx
        | cons m r =>
          rw [mpsX, List.cons.injEq] at hx
          obtain ⟨rfl, rfl⟩ := hx
          simp only [List.length_cons] at hi
          simp -implicitDefEqProofs (disch := omega) only [go_sem, e6, m6]
          refine ⟨inL [], fun _ _ => rfl, r, i + 1, rfl, by omega, ?_⟩
          simp -implicitDefEqProofs (disch := omega) only [go_sem]
          rfl
      · rintro E0 hE0 σ' ⟨ms, i, hx, hi, m6⟩
        have e6 : E0 6 = .ptr 83886176 1 0 0 := by rw [hE0]; simp -implicitDefEqProofs (disch := omega) only [go_sem]
        have e0' : E0 0 = UPS l := by rw [hE0]; simp -implicitDefEqProofs (disch := omega) only [go_sem, e0]
        clear hE0
        cases ms with
        | cons m r => cases hx
        | nil =>
          simp only [List.length_nil] at hi
          simp -implicitDefEqProofs (disch := omega) only [go_sem, e6, e0', m6, Tryz.results39]
          rw [show (((i - 1 : Nat) : Int) == (l.length : Int)) = decide ((mapsF [] l).length = l.length + 1) from by rw [Bool.eq_iff_iff]; simp; omega]
end Go.Proofs.YtndhglacgiidbaaGreatDoor
set_option maxRecDepth 100000
namespace Go.Proofs.YtndhglacgiidbaaGreatDoor
open Go.Vai Go Go.Proofs
open Nat (reduceEqDiff reduceMul reduceAdd reduceDiv reduceLeDiff)
open Int (reduceToNat reduceNe reduceEq reduceLT reduceLE)
abbrev inV (l : List Up) (v : Int) : Prop := validT l = true ∧ 0 ≤ v ∧ v ≤ l.length
theorem get_ev (l : List Up) (v : Int) (hl : l.length ≤ 1000) : Ev Tryz.prog 41 [UPS l, I v] (.tup [BL (if inV l v then mapV l v.toNat else []), B (decide (inV l v))]) := by
  suffices key : ∀ R, (¬ inV l v → R = .tup [.v (.slice none 0 0), B false]) → (inV l v → R = .tup [BL (mapV l v.toNat), B true]) → Ev Tryz.prog 41 [UPS l, I v] R by
    by_cases h : inV l v
    · rw [if_pos h, decide_eq_true h]; exact key _ (fun h' => (h' h).elim) fun _ => rfl
    · rw [if_neg h, decide_eq_false h]; exact (key _ (fun _ => rfl) fun h' => (h h').elim).resL ⟨asIf_nil 3, asIf_refl _, trivial⟩
  intro R hR0 hR1
  refine ev_of Tryz.func41 rfl (by kernel_rfl) mo (Nat.le_of_ble_eq_true rfl) ?_
  simp -implicitDefEqProofs (disch := omega) only [go_sem, Tryz.ntmps41]
  refine callC_at (tvalid_ev l hl) ?_
  simp -implicitDefEqProofs (disch := omega) only [go_sem]
  refine branch_mk (fun h1 => ?_) (fun h1 => ?_)
  · rw [hR0 (fun h => by have := h.1; rw [h1] at this; cases this)]
    simp -implicitDefEqProofs (disch := omega) only [go_sem, Tryz.results41]
  have h1 : validT l = true := by simpa using h1
  have hml := (validT_iff.1 h1).2.2
  simp -implicitDefEqProofs (disch := omega) only [go_sem]
  refine callC_at (maps_ev l) ?_
  simp -implicitDefEqProofs (disch := omega) only [go_sem]
  refine awpC_range ?_
  refine range_mk [] [88080432, 88080448, 88080464] 5505124 (mpsX (mapsF [] l) 0)
    (fun xs σ => ∃ (ms : List (List Bk)) (i : Nat), xs = mpsX ms i ∧ (mapsF [] l).drop i = ms ∧ (v < 0 ∨ (i : Int) ≤ v) ∧ σ 88080432 = some ⟨3, 1, [I v]⟩ ∧ σ 88080448 = some ⟨49, 1, [.own 88080449 3 0 0]⟩ ∧ σ 88080449 = some ⟨99, 3, []⟩ ∧ σ 88080464 = some ⟨4, 1, [B false]⟩)
    (g := 79) (caps := [.pt (UPS l) 0]) ?_ ?_ ?_ ?_ ?_ ?_ ?_ ?_
  · simp -implicitDefEqProofs (disch := omega) only [go_sem]
  · rw [only_none]; exact maps_sok l hl
  · exact mpsX_len _ _
  · simp -implicitDefEqProofs (disch := omega) only [go_sem]
  · simp -implicitDefEqProofs (disch := omega) only [go_sem]
  · refine ⟨_, 0, rfl, rfl, by omega, ?_⟩
    simp -implicitDefEqProofs (disch := omega) only [go_sem]
  · rintro E0 hE0 y rest σ' ⟨ms, i, hx, hd, hv, m3, m4, mx, m5⟩
    have e3 : E0 3 = .ptr 88080432 1 0 0 := by rw [hE0]; simp -implicitDefEqProofs (disch := omega) only [go_sem]
    have e4 : E0 4 = .ptr 88080448 1 0 0 := by rw [hE0]; simp -implicitDefEqProofs (disch := omega) only [go_sem]
    have e5 : E0 5 = .ptr 88080464 1 0 0 := by rw [hE0]; simp -implicitDefEqProofs (disch := omega) only [go_sem]
    clear hE0
    cases ms with
    | nil => cases hx
    | cons m r =>
      rw [mpsX, List.cons.injEq] at hx
      obtain ⟨rfl, rfl⟩ := hx
      have hg : gd (mapsF [] l) i = m := by have := List.getElem?_drop (xs := mapsF [] l) (i := i) (j := 0); rw [hd] at this; simp at this; unfold gd; rw [List.getD_eq_getElem?_getD, ← this]; rfl
      have hi : i < (mapsF [] l).length := by
        have := congrArg List.length hd
        simp at this; omega
      have hd' : (mapsF [] l).drop (i + 1) = r := by rw [← List.drop_drop, hd]; rfl
      simp -implicitDefEqProofs (disch := omega) only [go_sem, e3, e4, e5, m3, m4, m5, mx]
      refine branch_mk (fun hc => ?_) (fun hc => ?_)
      · have hiv : inV l v := ⟨h1, by omega, by omega⟩
        have hm : mapV l v.toNat = m := by rw [← hc]; exact hg
        rw [hR1 hiv, hm]
        simp -implicitDefEqProofs (disch := omega) only [go_sem, e3, e4, e5, m3, m4, m5, mx]
        refine ⟨inL [], fun _ _ => rfl, ?_⟩
        simp -implicitDefEqProofs (disch := omega) only [go_sem, e4, e5, Tryz.results41]
      · simp -implicitDefEqProofs (disch := omega) only [go_sem, e3, e4, e5, m3, m4, m5, mx]
        refine ⟨inL [], fun _ _ => rfl, r, i + 1, rfl, hd', by omega, ?_⟩
        simp -implicitDefEqProofs (disch := omega) only [go_sem, e3, e4, e5, m3, m4, m5, mx]
  · rintro E0 hE0 σ' ⟨ms, i, hx, hd, hv, m3, m4, mx, m5⟩
    have e4 : E0 4 = .ptr 88080448 1 0 0 := by rw [hE0]; simp -implicitDefEqProofs (disch := omega) only [go_sem]
    have e5 : E0 5 = .ptr 88080464 1 0 0 := by rw [hE0]; simp -implicitDefEqProofs (disch := omega) only [go_sem]
    clear hE0
    cases ms with
    | cons m r => cases hx
    | nil =>
      have hi := congrArg List.length hd
      simp only [List.length_drop, List.length_nil] at hi
      rw [hR0 (fun h => by have := h.2; omega)]
      simp -implicitDefEqProofs (disch := omega) only [go_sem, e4, e5, m4, m5, mx, Tryz.results41]
end Go.Proofs.YtndhglacgiidbaaGreatDoor
set_option maxRecDepth 100000
namespace Go.Proofs.YtndhglacgiidbaaGreatDoor
open Go.Vai Go Go.Proofs
open Nat (reduceEqDiff reduceMul reduceAdd reduceDiv reduceLeDiff)
open Int (reduceToNat reduceNe reduceEq reduceLT reduceLE)
theorem und_BL : Tryz.prog.underlying 49 = some (.slice 99) := by kernel_rfl
theorem cloneB_ev (m : List Bk) (hm : m.length ≤ 1000000) : Ev Tryz.prog 43 [BL m] (BL m) := by
  refine ev_sl (r := .new 99 3 (m.map BP)) ?_ _
  cases m with
  | cons b r =>
    have hne : (b :: r) ≠ [] := by simp
    refine ev_of Tryz.func43 rfl (by kernel_rfl) mo (Nat.le_of_ble_eq_true rfl) ?_
    simp -implicitDefEqProofs (disch := omega) only [go_sem, Tryz.ntmps43, hne]
    simp only [List.length_cons] at hm
    have hl : 0 < (b :: r).length := Nat.zero_lt_succ _
    simp -implicitDefEqProofs (disch := omega) only [go_sem, hl, Tryz.results43, List.take_length]
  | nil =>
    refine ev_ofB [1] Tryz.func43 rfl (by kernel_rfl) mo (Nat.le_of_ble_eq_true rfl) ?_
    simp -implicitDefEqProofs (disch := omega) only [go_sem, Tryz.ntmps43]
    refine region_V (show stepsV _ _ (_ :: _ :: []) _ _ from ⟨rfl, op_mk ?_⟩)
    simp -implicitDefEqProofs (disch := omega) only [go_sem]
    refine ⟨rfl, slNil_mk (sz := 3) (es := []) (by simp -implicitDefEqProofs (disch := omega) only [go_sem]) und_BL (.inl rfl) fun b => ?_⟩
    cases b
    · simp -implicitDefEqProofs (disch := omega) only [go_sem, stepsV, Tryz.results43]
      try rfl
    · simp -implicitDefEqProofs (disch := omega) only [go_sem, stepsV, Tryz.results43]
      try rfl
theorem map_ev (l : List Up) (v : Int) (hl : l.length ≤ 1000) : Ev Tryz.prog 14 [UPS l, I v] (.tup [BL (if inV l v then mapV l v.toNat else []), I (if inV l v then 0 else 230)]) := by
  have hg := get_ev l v hl
  suffices key : ∀ R, (¬ inV l v → R = .tup [.new 99 3 [], I 230]) → (inV l v → R = .tup [BL (mapV l v.toNat), I 0]) → Ev Tryz.prog 14 [UPS l, I v] R by
    by_cases h : inV l v
    · rw [if_pos h, if_pos h]; exact key _ (fun h' => (h' h).elim) fun _ => rfl
    · rw [if_neg h, if_neg h]; exact ev_sl (key _ (fun _ => rfl) fun h' => (h h').elim) _
  intro R hR0 hR1
  refine ev_of Tryz.func14 rfl (by kernel_rfl) mo (Nat.le_of_ble_eq_true rfl) ?_
  simp -implicitDefEqProofs (disch := omega) only [go_sem, Tryz.ntmps14]
  by_cases h : inV l v
  · rw [if_pos h, decide_eq_true h] at hg
    rw [hR1 h]
    refine callC_at hg ?_
    simp -implicitDefEqProofs (disch := omega) only [go_sem]
    refine callC_at (cloneB_ev _ (by have := validB_iff.1 (mapV_spec h.1 (v := v.toNat) (by have := h.2; omega)).1; omega)) ?_
    simp -implicitDefEqProofs (disch := omega) only [go_sem, Tryz.results14]
  · rw [if_neg h, decide_eq_false h] at hg
    rw [hR0 h]
    refine callC_at hg ?_
    simp -implicitDefEqProofs (disch := omega) only [go_sem, Tryz.results14]
theorem holder_ev (m : List Bk) (n : Int) (hv : validB m = true) : Ev Tryz.prog 42 [BL m, I n] (I (holdB m n)) := by
  have hin := hold_in (validB_iff.1 hv).2 n
  refine ev_of Tryz.func42 rfl (by kernel_rfl) mo (Nat.le_of_ble_eq_true rfl) ?_
  simp -implicitDefEqProofs (disch := omega) only [go_sem, Tryz.ntmps42]
  refine callC_at (find_ev m n hv) ?_
  by_cases h : holdB m n = -1
  · simp -implicitDefEqProofs (disch := omega) only [go_sem, h, Tryz.results42]
  · simp -implicitDefEqProofs (disch := omega) only [go_sem, h, Tryz.results42]
theorem held_ev (l : List Up) (n v : Int) (hl : l.length ≤ 1000) : Ev Tryz.prog 13 [UPS l, I n, I v] (.tup [I (if inV l v ∧ 0 ≤ n ∧ n ≤ 99999999 then heldV l n v.toNat else 0), I (if inV l v ∧ 0 ≤ n ∧ n ≤ 99999999 then 0 else 230)]) := by
  have hg := get_ev l v hl
  refine ev_of Tryz.func13 rfl (by kernel_rfl) mo (Nat.le_of_ble_eq_true rfl) ?_
  simp -implicitDefEqProofs (disch := omega) only [go_sem, Tryz.ntmps13]
  by_cases h : inV l v
  · rw [if_pos h, decide_eq_true h] at hg
    refine callC_at hg ?_
    simp -implicitDefEqProofs (disch := omega) only [go_sem]
    refine callC_at (isIn_ev n 0 99999999) ?_
    by_cases hn : 0 ≤ n ∧ n ≤ 99999999
    · rw [if_pos ⟨h, hn⟩, if_pos ⟨h, hn⟩]
      have hm := holder_ev (mapV l v.toNat) n (mapV_spec h.1 (by have := h.2; omega)).1
      rw [heldV_map h.1 (by have := h.2; omega)] at hm
      simp -implicitDefEqProofs (disch := omega) only [go_sem, hn, and_self]
      refine callC_at hm ?_
      simp -implicitDefEqProofs (disch := omega) only [go_sem, Tryz.results13]
    · rw [if_neg (fun h' => hn h'.2), if_neg (fun h' => hn h'.2)]
      simp -implicitDefEqProofs (disch := omega) only [go_sem, hn, Tryz.results13]
  · rw [if_neg h, decide_eq_false h] at hg
    rw [if_neg (fun h' => h h'.1), if_neg (fun h' => h h'.1)]
    refine callC_at hg ?_
    simp -implicitDefEqProofs (disch := omega) only [go_sem, Tryz.results13]
end Go.Proofs.YtndhglacgiidbaaGreatDoor
set_option maxRecDepth 100000
namespace Go.Proofs.YtndhglacgiidbaaGreatDoor
open Go.Vai Go Go.Proofs
open Nat (reduceEqDiff reduceMul reduceAdd reduceDiv reduceLeDiff)
open Int (reduceToNat reduceNe reduceEq reduceLT reduceLE)
abbrev inN (n : Int) : Prop := 0 ≤ n ∧ n ≤ 99999999
end Go.Proofs.YtndhglacgiidbaaGreatDoor
set_option maxRecDepth 100000
namespace Go.Proofs.YtndhglacgiidbaaGreatDoor
open Go.Vai Go Go.Proofs
open Nat (reduceEqDiff reduceMul reduceAdd reduceDiv reduceLeDiff)
open Int (reduceToNat reduceNe reduceEq reduceLT reduceLE)
theorem at1_ev (l : List Up) (t : Int) (i : Nat) (hi : i < l.length) : Ev Tryz.prog 70 [I i, .pt (UPS l) 0, .pt (I t) 0] (B (decide ((gd l i).a > t))) := by
  refine ev_of Tryz.func70 rfl (by kernel_rfl) mo (Nat.le_of_ble_eq_true rfl) ?_
  simp -implicitDefEqProofs (disch := omega) only [go_sem, Tryz.ntmps70, Tryz.results70]
theorem half_eq (i j : Nat) (h : i + j ≤ 100000) : IntKind.i64.wrap ((IntKind.u64.wrap ((i : Int) + (j : Int))).fdiv (2 ^ min 1 64)) = (((i + j) / 2 : Nat) : Int) := by
  have h1 : IntKind.u64.wrap ((i : Int) + (j : Int)) = (i : Int) + (j : Int) := by
    unfold IntKind.wrap
    simp only [IntKind.bits, IntKind.signed]
    first | omega | (simp; omega)
  rw [h1, wrap64_of]
  · rw [show (2 : Int) ^ min 1 64 = 2 from rfl, Int.fdiv_eq_ediv_of_nonneg _ (by omega)]; omega
  · rw [show (2 : Int) ^ min 1 64 = 2 from rfl, Int.fdiv_eq_ediv_of_nonneg _ (by omega)]; omega
theorem search_ev (l : List Up) (t : Int) (hv : validT l = true) : Ev Tryz.prog 69 [I l.length, .clo 70 [.pt (UPS l) 0, .pt (I t) 0]] (I (atF l t : Nat)) := by
  have h40 := (validT_iff.1 hv).1
  have hle := atF_le l t
  refine ev_of Tryz.func69 rfl (by kernel_rfl) mo (Nat.le_of_ble_eq_true rfl) ?_
  simp -implicitDefEqProofs (disch := omega) only [go_sem, Tryz.ntmps69]
  refine loopC_mk (fun n E σ => ∃ (i j : Nat), i + n = j ∧ i ≤ atF l t ∧ atF l t ≤ j ∧ j ≤ l.length ∧ E 1 = .clo 70 [.pt (UPS l) 0, .pt (I t) 0] ∧ E 5 = I i ∧ E 6 = I j) l.length ⟨0, l.length, by omega, by omega, hle, by omega, ?_⟩ ?_
  · simp -implicitDefEqProofs (disch := omega) only [go_sem]
    try rfl
  rintro n E σ ⟨i, j, hn, h1, h2, h3, e1, e5, e6⟩
  simp -implicitDefEqProofs (disch := omega) only [go_sem, e1, e5, e6]
  refine branch_mk (fun hc => ?_) (fun hc => ?_)
  · have hh := half_eq i j (by omega)
    obtain ⟨h, hq⟩ : ∃ h, (i + j) / 2 = h := ⟨_, rfl⟩
    rw [hq] at hh
    simp -implicitDefEqProofs (disch := omega) only [go_sem, e1, e5, e6, hh]
    refine callC_at (at1_ev l t h (by omega)) ?_
    simp -implicitDefEqProofs (disch := omega) only [go_sem, e1, e5, e6, hh]
    refine branch_mk (fun hb => ?_) (fun hb => ?_)
    · have hb : ¬ (gd l h).a > t := by simpa using hb
      have : h < atF l t := by
        refine Decidable.byContradiction fun hc => ?_
        have := atF_ge (validT_iff.1 hv).2.1 t (i := h) (by omega) (by omega)
        omega
      simp -implicitDefEqProofs (disch := omega) only [go_sem, e1, e5, e6, hh]
      refine againQ_mk (j - (h + 1)) (by omega) ⟨h + 1, j, by omega, by omega, by omega, by omega, ?_⟩
      simp -implicitDefEqProofs (disch := omega) only [go_sem, e1, e5, e6, hh]
      rfl
    · have hb : (gd l h).a > t := by simpa using hb
      have : atF l t ≤ h := by
        refine Decidable.byContradiction fun hc => ?_
        have := atF_lt l t h (by omega)
        omega
      simp -implicitDefEqProofs (disch := omega) only [go_sem, e1, e5, e6, hh]
      refine againQ_mk (h - i) (by omega) ⟨i, h, by omega, by omega, by omega, by omega, ?_⟩
      simp -implicitDefEqProofs (disch := omega) only [go_sem, e1, e5, e6, hh]
  · have : i = atF l t := by omega
    simp -implicitDefEqProofs (disch := omega) only [go_sem, e1, e5, e6, this, Tryz.results69]
theorem at_ev2 (l : List Up) (t : Int) (hv : validT l = true) : Ev Tryz.prog 40 [UPS l, I t] (I (atF l t : Nat)) := by
  refine ev_of Tryz.func40 rfl (by kernel_rfl) mo (Nat.le_of_ble_eq_true rfl) ?_
  simp -implicitDefEqProofs (disch := omega) only [go_sem, Tryz.ntmps40]
  refine callC_sem rfl ?_
  refine freeze_op [85983264, 85983280] ?_
  simp -implicitDefEqProofs (disch := omega) only [go_sem]
  refine callC_at (search_ev l t hv) ?_
  simp -implicitDefEqProofs (disch := omega) only [go_sem, Tryz.results40]
abbrev inT (l : List Up) (t lag : Int) : Prop := (0 ≤ t ∧ t ≤ 10000000) ∧ (0 ≤ lag ∧ lag ≤ 100000) ∧ validT l = true
theorem known_ev (l : List Up) (t lag : Int) (hl : l.length ≤ 1000) : Ev Tryz.prog 12 [UPS l, I t, I lag] (.tup [I (if inT l t lag then (atF l (t - lag) : Nat) else 0), I (if inT l t lag then (atF l t : Nat) else 0), I (if inT l t lag then 0 else 230)]) := by
  refine ev_of Tryz.func12 rfl (by kernel_rfl) mo (Nat.le_of_ble_eq_true rfl) ?_
  simp -implicitDefEqProofs (disch := omega) only [go_sem, Tryz.ntmps12]
  refine callC_at (isIn_ev t 0 10000000) ?_
  by_cases h1 : 0 ≤ t ∧ t ≤ 10000000
  · simp -implicitDefEqProofs (disch := omega) only [go_sem, h1, and_self]
    refine callC_at (isIn_ev lag 0 100000) ?_
    by_cases h2 : 0 ≤ lag ∧ lag ≤ 100000
    · simp -implicitDefEqProofs (disch := omega) only [go_sem, h2, and_self]
      refine callC_at (tvalid_ev l hl) ?_
      by_cases h3 : validT l = true
      · rw [if_pos ⟨h1, h2, h3⟩, if_pos ⟨h1, h2, h3⟩, if_pos ⟨h1, h2, h3⟩]
        simp -implicitDefEqProofs (disch := omega) only [go_sem, h3]
        refine callC_at (at_ev2 l (t - lag) h3) ?_
        simp -implicitDefEqProofs (disch := omega) only [go_sem]
        refine callC_at (at_ev2 l t h3) ?_
        simp -implicitDefEqProofs (disch := omega) only [go_sem, Tryz.results12]
      · have h3' : validT l = false := by simpa using h3
        rw [if_neg (fun h => h3 h.2.2), if_neg (fun h => h3 h.2.2), if_neg (fun h => h3 h.2.2)]
        simp -implicitDefEqProofs (disch := omega) only [go_sem, h3', Tryz.results12]
    · rw [if_neg (fun h => h2 h.2.1), if_neg (fun h => h2 h.2.1), if_neg (fun h => h2 h.2.1)]
      simp -implicitDefEqProofs (disch := omega) only [go_sem, h2, Tryz.results12]
  · rw [if_neg (fun h => h1 h.1), if_neg (fun h => h1 h.1), if_neg (fun h => h1 h.1)]
    simp -implicitDefEqProofs (disch := omega) only [go_sem, h1, Tryz.results12]
end Go.Proofs.YtndhglacgiidbaaGreatDoor
set_option maxRecDepth 100000
namespace Go.Proofs.YtndhglacgiidbaaGreatDoor
open Go.Vai Go Go.Proofs
open Nat (reduceEqDiff reduceMul reduceAdd reduceDiv reduceLeDiff)
open Int (reduceToNat reduceNe reduceEq reduceLT reduceLE)
theorem nan_ev (x : Int) : Ev Tryz.prog 136 [I x] (B false) := by
  refine ev_of Tryz.func136 rfl (by kernel_rfl) mo (Nat.le_of_ble_eq_true rfl) ?_
  simp -implicitDefEqProofs (disch := omega) only [go_sem, Tryz.ntmps136, Tryz.results136]
  simp
theorem less_ev (x y : Int) : Ev Tryz.prog 112 [I x, I y] (B (decide (x < y))) := by
  refine ev_of Tryz.func112 rfl (by kernel_rfl) mo (Nat.le_of_ble_eq_true rfl) ?_
  simp -implicitDefEqProofs (disch := omega) only [go_sem, Tryz.ntmps112]
  refine callC_at (nan_ev x) ?_
  simp -implicitDefEqProofs (disch := omega) only [go_sem, Tryz.results112]
theorem insRev_snoc (P : List Int) (a x : Int) : insRev (P ++ [a]).reverse x = if x < a then a :: insRev P.reverse x else x :: a :: P.reverse := by
  rw [List.reverse_append]; rfl
abbrev LX (l : List Int) : List (Nat × Blk) := [(39846096, ⟨3, 1, l.map I⟩)]
theorem swap_eq (P : List Int) (a x : Int) (T : List Int) : ((P ++ a :: x :: T).set (P.length + 1) a).set P.length x = P ++ x :: a :: T := by
  rw [List.set_append_right _ _ (by omega), List.set_append_right _ _ (by omega)]
  simp
theorem ins_lok (l : List Int) (h0 : 1 ≤ l.length) (h12 : l.length ≤ 12) : LOK Tryz.prog 106 (inI [39846096]) [.own 39846096 1 0 l.length, I 0, I l.length] (stO (LX l)) (.tup []) (stO (LX (sortF l))) := by
  refine lok_ofB [6] [39846096] Tryz.func106 rfl (by kernel_rfl) mo (Nat.le_of_ble_eq_true rfl) rfl (by kernel_rfl) (by kernel_rfl) ?_
  obtain ⟨n, hn⟩ : ∃ n, l.length = n := ⟨_, rfl⟩
  rw [hn]
  simp -implicitDefEqProofs (disch := omega) only [go_sem, Tryz.ntmps106]
  refine loopC_mk (fun k E σ => ∃ (i : Nat), i + k = n ∧ 1 ≤ i ∧ E 0 = .own 39846096 1 0 n ∧ E 1 = I 0 ∧ E 2 = I n ∧ E 6 = I i ∧ σ 39846096 = some ⟨3, 1, (((l.take i).foldl insRev []).reverse ++ l.drop i).map I⟩) (n - 1) ⟨1, by omega, by omega, ?_⟩ ?_
  · have : ((l.take 1).foldl insRev []).reverse ++ l.drop 1 = l := by
      cases l with
      | nil => simp at h0
      | cons y l => rfl
    rw [this]
    simp -implicitDefEqProofs (disch := omega) only [go_sem]
    rfl
  rintro k E σ ⟨i, hk, hi1, e0, e1, e2, e6, m0⟩
  simp -implicitDefEqProofs (disch := omega) only [go_sem, e0, e1, e2, e6, m0]
  refine branch_mk (fun hc => ?_) (fun hc => ?_)
  · have hil : i < l.length := by omega
    have hlen := (sort_fold (l.take i) [] trivial).2.2
    rw [List.length_take, List.length_nil, Nat.min_eq_left (by omega)] at hlen
    have htk : (l.take (i + 1)).foldl insRev [] = insRev ((l.take i).foldl insRev []) (gd l i) := by
      rw [take_succ' l i hil, List.foldl_append]; rfl
    have hdr : l.drop i = gd l i :: l.drop (i + 1) := by rw [gd_getB l i hil, List.drop_eq_getElem_cons hil]
    have hdl : (l.drop (i + 1)).length = n - (i + 1) := by rw [List.length_drop, hn]
    rw [hdr] at m0
    obtain ⟨x, hx0⟩ : ∃ x, gd l i = x := ⟨_, rfl⟩
    obtain ⟨R, hR⟩ : ∃ R, (l.take i).foldl insRev [] = R := ⟨_, rfl⟩
    rw [hx0, hR] at m0 htk
    rw [hR] at hlen
    simp -implicitDefEqProofs (disch := omega) only [go_sem, e0, e1, e2, e6, m0]
    refine loop_join 2 (fun E σ => E 0 = .own 39846096 1 0 n ∧ E 1 = I 0 ∧ E 2 = I n ∧ E 6 = I i ∧ σ 39846096 = some ⟨3, 1, (((l.take (i + 1)).foldl insRev []).reverse ++ l.drop (i + 1)).map I⟩) ?_ ?_
    · refine loopC_mk (fun j E σ => ∃ (P T2 : List Int), j = P.length ∧ (insRev P.reverse x).reverse ++ T2 = ((l.take (i + 1)).foldl insRev []).reverse ++ l.drop (i + 1) ∧ (P ++ x :: T2).length = n ∧ E 0 = .own 39846096 1 0 n ∧ E 1 = I 0 ∧ E 2 = I n ∧ E 6 = I i ∧ E 7 = I j ∧ σ 39846096 = some ⟨3, 1, (P ++ x :: T2).map I⟩) i ⟨R.reverse, l.drop (i + 1), by simp; omega, ?_, ?_, ?_⟩ ?_
      · rw [htk, List.reverse_reverse]
      · simp only [List.length_append, List.length_reverse, List.length_cons]; omega
      · simp -implicitDefEqProofs (disch := omega) only [go_sem, e0, e1, e2, e6, m0]
      clear e0 e1 e2 e6 m0
      rintro j E σ ⟨P, T2, hj, hT, hln, e0, e1, e2, e6, e7, m0⟩
      simp -implicitDefEqProofs (disch := omega) only [go_sem, e0, e1, e2, e6, e7, m0]
      refine branch_mk (fun hj0 => ?_) (fun hj0 => ?_)
      · obtain ⟨P', a, rfl⟩ : ∃ P' a, P = P' ++ [a] := by
          rcases List.eq_nil_or_concat P with h | ⟨P', a, h⟩
          · subst h; simp at hj; omega
          · exact ⟨P', a, by rw [h, List.concat_eq_append]⟩
        rw [List.length_append, List.length_singleton] at hj
        have hes : P' ++ [a] ++ x :: T2 = P' ++ a :: x :: T2 := by simp
        rw [hes] at m0 hln
        have h1 : gd (P' ++ a :: x :: T2) j = x := by rw [gd_append_right _ _ _ (by omega), hj, Nat.add_sub_cancel_left, gd_cons_succ, gd_cons_zero]
        have h2 : gd (P' ++ a :: x :: T2) (j - 1) = a := by rw [gd_append_right _ _ _ (by omega), hj, Nat.add_sub_cancel, Nat.sub_self, gd_cons_zero]
        have h3 : ((P' ++ a :: x :: T2).set j a).set (j - 1) x = P' ++ x :: a :: T2 := by rw [hj, Nat.add_sub_cancel]; exact swap_eq P' a x T2
        obtain ⟨es, hes2⟩ : ∃ es, P' ++ a :: x :: T2 = es := ⟨_, rfl⟩
        rw [hes2] at m0 hln h1 h2 h3
        have hje : j < es.length := by rw [hln, ← hln, ← hes2]; simp; omega
        have hj1 : (((j : Nat) : Int) - 1).toNat = j - 1 := by omega
        have hj2 : j - 1 < es.length := by omega
        simp -implicitDefEqProofs (disch := omega) only [go_sem, e0, e1, e2, e6, e7, m0, h1, h2, hj1]
        refine callC_at (less_ev x a) ?_
        simp -implicitDefEqProofs (disch := omega) only [go_sem, e0, e1, e2, e6, e7, m0, h1, h2, hj1]
        refine branch_mk (fun hx => ?_) (fun hx => ?_)
        · have hx : x < a := by simpa using hx
          simp -implicitDefEqProofs (disch := omega) only [go_sem, e0, e1, e2, e6, e7, m0, h1, h2, hj1]
          refine region_K (fun D E σ => E 0 = .own 39846096 1 0 n ∧ E 1 = I 0 ∧ E 2 = I n ∧ E 6 = I i ∧ E 7 = I j ∧ (D 17 = true → D 15 = true) ∧ (D 15 = true → D 9 = true) ∧ (D 15 = true → D 13 = true) ∧ (D 15 = false → σ 39846096 = some ⟨3, 1, es.map I⟩) ∧ (D 15 = true → D 17 = false → σ 39846096 = some ⟨3, 1, (es.set j a).map I⟩) ∧ (D 17 = true → σ 39846096 = some ⟨3, 1, ((es.set j a).set (j - 1) x).map I⟩) ∧ (D 0 = true → E 33 = .own 39846096 1 0 n) ∧ (D 1 = true → E 34 = I j) ∧ (D 2 = true → E 35 = .own 39846096 1 0 n) ∧ (D 3 = true → E 36 = I j) ∧ (D 4 = true → E 37 = I ((j : Int) - 1)) ∧ (D 5 = true → E 38 = .own 39846096 1 0 n) ∧ (D 6 = true → E 39 = I j) ∧ (D 7 = true → E 40 = I ((j : Int) - 1)) ∧ (D 8 = true → E 41 = .ptr 39846096 1 (j - 1) 0) ∧ (D 9 = true → E 42 = I a) ∧ (D 10 = true → E 43 = .own 39846096 1 0 n) ∧ (D 11 = true → E 44 = I j) ∧ (D 12 = true → E 45 = .ptr 39846096 1 j 0) ∧ (D 13 = true → E 46 = I x) ∧ (D 14 = true → E 47 = .ptr 39846096 1 j 0) ∧ (D 16 = true → E 48 = .ptr 39846096 1 (j - 1) 0)) ?_ ?_ ?_
          · simp -implicitDefEqProofs (disch := omega) only [go_sem, h1, h2, hje, hj1, hj2]
            simp -implicitDefEqProofs (disch := omega) only [go_sem, e0, e1, e2, e6, e7, m0]
            simp
          · simp only [stepsK, depK, Region.binds, eq_self, forall_const, and_true]
            repeat' apply And.intro
            all_goals
              rintro D E σ ⟨e0, e1, e2, e6, e7, c17_15, c15_9, c15_13, m0_0, m0_1, m0_2, j0, j1, j2, j3, j4, j5, j6, j7, j8, j9, j10, j11, j12, j13, j14, j16⟩ hd
              have k := And.intro trivial <| And.intro (cK c17_15) <| And.intro (cK c15_9) <| And.intro (cK c15_13) trivial
              simp -implicitDefEqProofs (disch := first | assumption | (simp only [hd, k]; done) | omega) only [go_sem, e0, e1, e2, e6, e7, m0_0, m0_1, m0_2, j0, j1, j2, j3, j4, j5, j6, j7, j8, j9, j10, j11, j12, j13, j14, j16, h1, h2, hje, hj1, hj2]
              repeat' apply And.intro
              all_goals first | assumption | (intro _; assumption) | trivial | (simp -implicitDefEqProofs (contextual := true) (disch := first | assumption | omega) only [go_sem, m0_0, m0_1, m0_2, j0, j1, j2, j3, j4, j5, j6, j7, j8, j9, j10, j11, j12, j13, j14, j16, hd, c17_15, c15_9, c15_13, k, implies_true, forall_const, false_implies, true_implies]; done) | (intro h; intros; exfalso; simp (maxDischargeDepth := 9) [hd, k] at h; done) | (intros; contradiction) | trace_state
          · rintro D E σ hD ⟨e0, e1, e2, e6, e7, c17_15, c15_9, c15_13, m0_0, m0_1, m0_2, j0, j1, j2, j3, j4, j5, j6, j7, j8, j9, j10, j11, j12, j13, j14, j16⟩
            have g0 := m0_2 (hD 17 (by decide))
            have q0 := j0 (hD 0 (by decide))
            have q1 := j1 (hD 1 (by decide))
            have q2 := j2 (hD 2 (by decide))
            have q3 := j3 (hD 3 (by decide))
            have q4 := j4 (hD 4 (by decide))
            have q5 := j5 (hD 5 (by decide))
            have q6 := j6 (hD 6 (by decide))
            have q7 := j7 (hD 7 (by decide))
            have q8 := j8 (hD 8 (by decide))
            have q9 := j9 (hD 9 (by decide))
            have q10 := j10 (hD 10 (by decide))
            have q11 := j11 (hD 11 (by decide))
            have q12 := j12 (hD 12 (by decide))
            have q13 := j13 (hD 13 (by decide))
            have q14 := j14 (hD 14 (by decide))
            have q16 := j16 (hD 16 (by decide))
            clear c17_15 c15_9 c15_13 m0_0 m0_1 m0_2 j0 j1 j2 j3 j4 j5 j6 j7 j8 j9 j10 j11 j12 j13 j14 j16 hD
            simp -implicitDefEqProofs (disch := omega) only [go_sem, e0, e1, e2, e6, e7, g0]
            refine againQ_mk (j - 1) (by omega) ⟨P', a :: T2, by omega, ?_, ?_, ?_⟩
            · rw [← hT, insRev_snoc, if_pos hx]; simp
            · rw [← hln, ← hes2]; simp
            have hj3 : ((j - 1 : Nat) : Int) = (j : Int) - 1 := by omega
            simp -implicitDefEqProofs (disch := omega) only [go_sem, e0, e1, e2, e6, e7, g0, h3, hj3]
        · have hx : ¬ x < a := by simpa using hx
          rw [insRev_snoc, if_neg hx] at hT
          simp -implicitDefEqProofs (disch := omega) only [go_sem, e0, e1, e2, e6, e7, m0]
          rw [← hT, ← hes2]
          simp
      · obtain rfl : P = [] := List.eq_nil_of_length_eq_zero (by omega)
        simp -implicitDefEqProofs (disch := omega) only [go_sem, e0, e1, e2, e6, e7, m0]
        rw [← hT]
        rfl
    · rintro E σ ⟨e0, e1, e2, e6, m0⟩
      simp -implicitDefEqProofs (disch := omega) only [go_sem, e0, e1, e2, e6, m0]
      refine againQ_mk (n - (i + 1)) (by omega) ⟨i + 1, by omega, by omega, ?_⟩
      simp -implicitDefEqProofs (disch := omega) only [go_sem, e0, e1, e2, e6, m0]
      rfl
  · have : i = n := by omega
    subst this
    rw [← hn, List.take_length, List.drop_length, List.append_nil] at m0
    simp -implicitDefEqProofs (disch := omega) only [go_sem, e0, m0, sortF, Tryz.results106]
end Go.Proofs.YtndhglacgiidbaaGreatDoor
set_option maxRecDepth 100000
namespace Go.Proofs.YtndhglacgiidbaaGreatDoor
open Go.Vai Go Go.Proofs
open Nat (reduceEqDiff reduceMul reduceAdd reduceDiv reduceLeDiff)
open Int (reduceToNat reduceNe reduceEq reduceLT reduceLE)
theorem pdq_lok (l : List Int) (q : Int) (h0 : 1 ≤ l.length) (h12 : l.length ≤ 12) : LOK Tryz.prog 82 (inI [39846096]) [.own 39846096 1 0 l.length, I 0, I l.length, I q] (stO (LX l)) (.tup []) (stO (LX (sortF l))) := by
  refine lok_of [39846096] Tryz.func82 rfl (by kernel_rfl) mo (Nat.le_of_ble_eq_true rfl) rfl (by kernel_rfl) (by kernel_rfl) ?_
  simp -implicitDefEqProofs (disch := omega) only [go_sem, Tryz.ntmps82]
  refine loopC_mk (fun k E σ => k = 0 ∧ E 0 = .own 39846096 1 0 l.length ∧ E 1 = I 0 ∧ E 2 = I l.length ∧ σ 39846096 = some ⟨3, 1, l.map I⟩) 0 ⟨rfl, ?_⟩ ?_
  · simp -implicitDefEqProofs (disch := omega) only [go_sem]
  rintro k E σ ⟨rfl, e0, e1, e2, m0⟩
  simp -implicitDefEqProofs (disch := omega) only [go_sem, e0, e1, e2, m0]
  refine branch_l (by omega) ?_
  simp -implicitDefEqProofs (disch := omega) only [go_sem, e0, e1, e2, m0]
  refine callC_sem rfl ?_
  refine lent_mk [39846096] (show LOK _ _ _ ([.own 39846096 1 0 l.length, I 0, I l.length] ++ []) _ _ _ from ins_lok l h0 h12) ?_ ?_ ?_ ?_ ?_ ?_ ?_
  · simp -implicitDefEqProofs (disch := omega) only [go_sem, e0, e1, e2, m0]
  · simp -implicitDefEqProofs (disch := omega) only [go_sem, e0, e1, e2, m0]
  · simp -implicitDefEqProofs (disch := omega) only [go_sem, e0, e1, e2, m0]
  · simp -implicitDefEqProofs (disch := omega) only [go_sem, e0, e1, e2, m0]
  · simp -implicitDefEqProofs (disch := omega) only [go_sem, e0, e1, e2, m0]
  · simp -implicitDefEqProofs (disch := omega) only [go_sem, e0, e1, e2, m0]
  · simp -implicitDefEqProofs (disch := omega) only [go_sem, e0, e1, e2, m0, Tryz.results82]
def blen (n : Nat) : Int := [0, 1, 2, 2, 3, 3, 3, 3, 4, 4, 4, 4, 4].getD n 0
theorem optU_at {b : Prop} {o : Option UInt8} {c : UInt8} {K : AV → Prop} (h : o = some c) (hk : optU b (some c) K) : optU b o K := h ▸ hk
theorem len64_ev (n : Nat) (h : n ≤ 12) : Ev Tryz.prog 116 [.v (.int .u64 n)] (I (blen n)) := by
  refine ev_of Tryz.func116 rfl (by kernel_rfl) mo (Nat.le_of_ble_eq_true rfl) ?_
  simp -implicitDefEqProofs (disch := omega) only [go_sem, Tryz.ntmps116]
  refine branch_r (by omega) ?_
  simp -implicitDefEqProofs (disch := omega) only [go_sem]
  refine branch_r (by omega) ?_
  simp -implicitDefEqProofs (disch := omega) only [go_sem]
  refine branch_r (by omega) ?_
  simp -implicitDefEqProofs (disch := omega) only [go_sem]
  have hn : n = 0 ∨ n = 1 ∨ n = 2 ∨ n = 3 ∨ n = 4 ∨ n = 5 ∨ n = 6 ∨ n = 7 ∨ n = 8 ∨ n = 9 ∨ n = 10 ∨ n = 11 ∨ n = 12 := by omega
  rcases hn with rfl | rfl | rfl | rfl | rfl | rfl | rfl | rfl | rfl | rfl | rfl | rfl | rfl
  · refine optU_at (c := 0) (by kernel_rfl) ?_
    simp -implicitDefEqProofs (disch := omega) only [go_sem, Tryz.results116]
    kernel_rfl
  · refine optU_at (c := 1) (by kernel_rfl) ?_
    simp -implicitDefEqProofs (disch := omega) only [go_sem, Tryz.results116]
    kernel_rfl
  · refine optU_at (c := 2) (by kernel_rfl) ?_
    simp -implicitDefEqProofs (disch := omega) only [go_sem, Tryz.results116]
    kernel_rfl
  · refine optU_at (c := 2) (by kernel_rfl) ?_
    simp -implicitDefEqProofs (disch := omega) only [go_sem, Tryz.results116]
    kernel_rfl
  · refine optU_at (c := 3) (by kernel_rfl) ?_
    simp -implicitDefEqProofs (disch := omega) only [go_sem, Tryz.results116]
    kernel_rfl
  · refine optU_at (c := 3) (by kernel_rfl) ?_
    simp -implicitDefEqProofs (disch := omega) only [go_sem, Tryz.results116]
    kernel_rfl
  · refine optU_at (c := 3) (by kernel_rfl) ?_
    simp -implicitDefEqProofs (disch := omega) only [go_sem, Tryz.results116]
    kernel_rfl
  · refine optU_at (c := 3) (by kernel_rfl) ?_
    simp -implicitDefEqProofs (disch := omega) only [go_sem, Tryz.results116]
    kernel_rfl
  · refine optU_at (c := 4) (by kernel_rfl) ?_
    simp -implicitDefEqProofs (disch := omega) only [go_sem, Tryz.results116]
    kernel_rfl
  · refine optU_at (c := 4) (by kernel_rfl) ?_
    simp -implicitDefEqProofs (disch := omega) only [go_sem, Tryz.results116]
    kernel_rfl
  · refine optU_at (c := 4) (by kernel_rfl) ?_
    simp -implicitDefEqProofs (disch := omega) only [go_sem, Tryz.results116]
    kernel_rfl
  · refine optU_at (c := 4) (by kernel_rfl) ?_
    simp -implicitDefEqProofs (disch := omega) only [go_sem, Tryz.results116]
    kernel_rfl
  · refine optU_at (c := 4) (by kernel_rfl) ?_
    simp -implicitDefEqProofs (disch := omega) only [go_sem, Tryz.results116]
    kernel_rfl
theorem wrapu_of (n : Nat) (h : n ≤ 12) : IntKind.u64.wrap (n : Int) = n := by
  unfold IntKind.wrap
  simp only [IntKind.bits, IntKind.signed]
  first | omega | (simp; omega)
theorem len_ev (n : Nat) (h : n ≤ 12) : Ev Tryz.prog 83 [.v (.int .u64 n)] (I (blen n)) := by
  refine ev_of Tryz.func83 rfl (by kernel_rfl) mo (Nat.le_of_ble_eq_true rfl) ?_
  simp -implicitDefEqProofs (disch := omega) only [go_sem, Tryz.ntmps83, wrapu_of n h]
  refine callC_at (len64_ev n h) ?_
  simp -implicitDefEqProofs (disch := omega) only [go_sem, Tryz.results83]
theorem sort_lok (l : List Int) (h0 : 1 ≤ l.length) (h12 : l.length ≤ 12) : LOK Tryz.prog 52 (inI [39846096]) [.own 39846096 1 0 l.length] (stO (LX l)) (.tup []) (stO (LX (sortF l))) := by
  refine lok_of [39846096] Tryz.func52 rfl (by kernel_rfl) mo (Nat.le_of_ble_eq_true rfl) rfl (by kernel_rfl) (by kernel_rfl) ?_
  simp -implicitDefEqProofs (disch := omega) only [go_sem, Tryz.ntmps52]
  rw [wrapu_of _ h12]
  refine callC_at (len_ev _ h12) ?_
  simp -implicitDefEqProofs (disch := omega) only [go_sem]
  refine callC_sem rfl ?_
  refine lent_mk [39846096] (show LOK _ _ _ ([.own 39846096 1 0 l.length, I 0, I l.length, I (blen l.length)] ++ []) _ _ _ from pdq_lok l _ h0 h12) ?_ ?_ ?_ ?_ ?_ ?_ ?_
  · simp -implicitDefEqProofs (disch := omega) only [go_sem]
  · simp -implicitDefEqProofs (disch := omega) only [go_sem]
  · simp -implicitDefEqProofs (disch := omega) only [go_sem]
  · simp -implicitDefEqProofs (disch := omega) only [go_sem]
  · simp -implicitDefEqProofs (disch := omega) only [go_sem]
  · simp -implicitDefEqProofs (disch := omega) only [go_sem]
  · simp -implicitDefEqProofs (disch := omega) only [go_sem, Tryz.results52]
end Go.Proofs.YtndhglacgiidbaaGreatDoor
set_option maxRecDepth 100000
namespace Go.Proofs.YtndhglacgiidbaaGreatDoor
open Go.Vai Go Go.Proofs
open Nat (reduceEqDiff reduceMul reduceAdd reduceDiv reduceLeDiff)
open Int (reduceToNat reduceNe reduceEq reduceLT reduceLE)
@[go_sem] theorem oneCell_map : (Value.map none).oneCell' = true := rfl
theorem kill_itA (p : Nat → Bool) (r : Nat) (ks : List AV) (k : Value) : AV.kill p (itA r ks (.v k)) = itA r ks (.v k) := kill_of_not (itA_names p r ks k)
def addK (ks : List Int) (k : Int) : List Int := if k ∈ ks then ks else ks ++ [k]
def kvB (ks : List Int) : List (Int × AV) := ks.map fun k => (k, B true)
theorem idx_kv (k : Int) : ∀ ks : List Int, (k ∉ ks ∧ idxA k (kvB ks) = none) ∨ ∃ j, idxA k (kvB ks) = some j ∧ k ∈ ks ∧ (kvB ks).set j (k, B true) = kvB ks
  | [] => .inl ⟨by simp, rfl⟩
  | x :: ks => by
    show (_ ∧ (if x = k then some 0 else (idxA k (kvB ks)).map (· + 1)) = none) ∨ ∃ j, (if x = k then some 0 else (idxA k (kvB ks)).map (· + 1)) = some j ∧ _ ∧ ((x, B true) :: kvB ks).set j (k, B true) = (x, B true) :: kvB ks
    by_cases h : x = k
    · subst h
      exact .inr ⟨0, by simp, by simp, rfl⟩
    · rw [if_neg h]
      rcases idx_kv k ks with ⟨h1, h2⟩ | ⟨j, h1, h2, h3⟩
      · exact .inl ⟨by simp [h1]; exact fun e => h e.symm, by rw [h2]; rfl⟩
      · exact .inr ⟨j + 1, by rw [h1]; rfl, by simp [h2], by rw [List.set_cons_succ, h3]⟩
theorem put_kv (ks : List Int) (k : Int) : mputA (kvB ks) k (B true) = kvB (addK ks k) := by
  unfold mputA addK
  rcases idx_kv k ks with ⟨h1, h2⟩ | ⟨j, h1, h2, h3⟩
  · rw [h2, if_neg h1]; simp [kvB]
  · rw [h1, if_pos h2]; exact h3
def keysF (l : List Up) (n : Int) (a b : Nat) : Nat → List Int
  | 0 => []
  | i + 1 => if a ≤ i ∧ i ≤ b then addK (keysF l n a b i) (heldV l n i) else keysF l n a b i
theorem addK_mem (ks : List Int) (k c : Int) : c ∈ addK ks k ↔ c ∈ ks ∨ c = k := by
  unfold addK
  split
  · rename_i h; exact ⟨.inl, fun h' => h'.elim id fun e => e ▸ h⟩
  · simp
theorem addK_nodup (ks : List Int) (k : Int) (h : ks.Nodup) : (addK ks k).Nodup := by
  unfold addK
  split
  · exact h
  · rename_i hk
    rw [List.nodup_append]
    exact ⟨h, by simp, fun a ha b hb => by rw [List.mem_singleton] at hb; subst hb; exact fun e => hk (e ▸ ha)⟩
theorem keysF_mem (l : List Up) (n : Int) (a b : Nat) (c : Int) : ∀ i, c ∈ keysF l n a b i ↔ ∃ v, v < i ∧ a ≤ v ∧ v ≤ b ∧ heldV l n v = c
  | 0 => ⟨fun h => (by cases h), fun ⟨v, h, _⟩ => (by cases h)⟩
  | i + 1 => by
    rw [keysF]
    have ih := keysF_mem l n a b c i
    split
    · rename_i hi
      rw [addK_mem, ih]
      constructor
      · rintro (⟨v, h1, h2⟩ | rfl)
        · exact ⟨v, by omega, h2⟩
        · exact ⟨i, by omega, hi.1, hi.2, rfl⟩
      · rintro ⟨v, h1, h2, h3, h4⟩
        by_cases e : v = i
        · exact .inr (by rw [← h4, e])
        · exact .inl ⟨v, by omega, h2, h3, h4⟩
    · rename_i hi
      rw [ih]
      constructor
      · rintro ⟨v, h1, h2⟩; exact ⟨v, by omega, h2⟩
      · rintro ⟨v, h1, h2, h3, h4⟩
        have hvi : v ≠ i := fun e => hi ⟨e ▸ h2, e ▸ h3⟩
        exact ⟨v, by omega, h2, h3, h4⟩
theorem keysF_nodup (l : List Up) (n : Int) (a b : Nat) : ∀ i, (keysF l n a b i).Nodup
  | 0 => List.nodup_nil
  | i + 1 => by
    rw [keysF]
    split
    · exact addK_nodup _ _ (keysF_nodup l n a b i)
    · exact keysF_nodup l n a b i
theorem sort_keys {l : List Up} (hv : validT l = true) {n : Int} {a b : Nat} (hb : b ≤ l.length) {o : List Int} (h1 : o.Nodup) (h2 : ∀ x, x ∈ o ↔ x ∈ keysF l n a b (l.length + 1)) : sortF o = betF l n a b := by
  refine asc_ext (sortF_asc h1) (betF_asc l n a b) fun x => ?_
  rw [sortF_mem, h2, betF_mem hv hb, keysF_mem]
  constructor
  · rintro ⟨v, _, h3, h4, h5⟩; exact ⟨v, h3, h4, h5⟩
  · rintro ⟨v, h3, h4, h5⟩; exact ⟨v, by omega, h3, h4, h5⟩
theorem keys_few {l : List Up} (hv : validT l = true) {n : Int} {a b : Nat} (hb : b ≤ l.length) {o : List Int} (h1 : o.Nodup) (h2 : ∀ x, x ∈ o → x ∈ keysF l n a b (l.length + 1)) : o.length ≤ 9 := by
  refine nodup_le o crs h1 fun x hx => ?_
  obtain ⟨v, _, _, h4, h5⟩ := (keysF_mem l n a b x _).1 (h2 x hx)
  have := heldV_in hv n (v := v) (by omega)
  rw [h5] at this
  unfold crs
  simp only [List.mem_cons, List.not_mem_nil, or_false]
  unfold cOK at this
  omega
theorem und_mp : Tryz.prog.underlying 108 = some (.map 3 4) := by kernel_rfl
theorem und_int : Tryz.prog.underlying 3 = some (.int .i64) := by kernel_rfl
theorem namesL_kv2 (p : Nat → Bool) (ks : List Int) : AV.namesL p ((kvB ks).map entA) = false := by
  unfold kvB; rw [List.map_map]; exact namesL_map p ks _ fun _ => rfl
attribute [go_sem] namesL_kv2
abbrev inB (l : List Up) (n a b : Int) : Prop := (validT l = true ∧ inN n) ∧ (0 ≤ a ∧ a ≤ b) ∧ b ≤ l.length
set_option maxHeartbeats 1000000 in
theorem between_ev (l : List Up) (n a b : Int) (hl : l.length ≤ 1000) : Ev Tryz.prog 18 [UPS l, I n, I a, I b] (.tup [SL (if inB l n a b then betF l n a.toNat b.toNat else []), I (if inB l n a b then 0 else 230)]) := by
  suffices key : ∀ R, (¬ inB l n a b → R = .tup [.new 3 1 [], I 230]) → (inB l n a b → R = .tup [SL (betF l n a.toNat b.toNat), I 0]) → Ev Tryz.prog 18 [UPS l, I n, I a, I b] R by
    by_cases h : inB l n a b
    · rw [if_pos h, if_pos h]; exact key _ (fun h' => (h' h).elim) fun _ => rfl
    · rw [if_neg h, if_neg h]; exact ev_sl (key _ (fun _ => rfl) fun h' => (h h').elim) _
  intro R hR0 hR1
  refine ev_ofI [10] Tryz.func18 rfl (by kernel_rfl) mo (Nat.le_of_ble_eq_true rfl) ?_
  simp -implicitDefEqProofs (disch := omega) only [go_sem, Tryz.ntmps18]
  refine callC_at (tvalid_ev l hl) ?_
  by_cases h1 : validT l = true
  case neg =>
    rw [hR0 (fun h => h1 h.1.1)]
    have h1 : validT l = false := by simpa using h1
    simp -implicitDefEqProofs (disch := omega) only [go_sem, h1, Tryz.results18]
  simp -implicitDefEqProofs (disch := omega) only [go_sem, h1]
  refine callC_at (isIn_ev n 0 99999999) ?_
  by_cases h2 : 0 ≤ n ∧ n ≤ 99999999
  case neg =>
    rw [hR0 (fun h => h2 h.1.2)]
    simp -implicitDefEqProofs (disch := omega) only [go_sem, h2, Tryz.results18]
  simp -implicitDefEqProofs (disch := omega) only [go_sem, h2, and_self]
  refine callC_at (isIn_ev a 0 b) ?_
  by_cases h3 : 0 ≤ a ∧ a ≤ b
  case neg =>
    rw [hR0 (fun h => h3 h.2.1)]
    simp -implicitDefEqProofs (disch := omega) only [go_sem, h3, Tryz.results18]
  simp -implicitDefEqProofs (disch := omega) only [go_sem, h3, and_self]
  refine branch_mk (fun h4 => ?_) (fun h4 => ?_)
  · rw [hR0 (fun h => by have := h.2.2; omega)]
    simp -implicitDefEqProofs (disch := omega) only [go_sem, h4, Tryz.results18]
  have hB : inB l n a b := ⟨⟨h1, h2⟩, h3, by omega⟩
  rw [hR1 hB]
  clear hR0 hR1 hB
  obtain ⟨a, rfl⟩ : ∃ k : Nat, a = k := ⟨a.toNat, by omega⟩
  obtain ⟨b, rfl⟩ : ∃ k : Nat, b = k := ⟨b.toNat, by omega⟩
  rw [Int.toNat_natCast, Int.toNat_natCast]
  have hml := (validT_iff.1 h1).2.2
  simp -implicitDefEqProofs (disch := omega) only [go_sem, h4]
  refine makeMap_mk ?_
  simp -implicitDefEqProofs (disch := omega) only [go_sem]
  refine callC_at (maps_ev l) ?_
  simp -implicitDefEqProofs (disch := omega) only [go_sem]
  refine awpC_range ?_
  refine range_mk [] [39845968, 39845984, 39846000, 39846048, 39846448] 2490468 (mpsX (mapsF [] l) 0)
    (fun xs σ => ∃ (ms : List (List Bk)) (i : Nat), xs = mpsX ms i ∧ (mapsF [] l).drop i = ms ∧ i ≤ l.length + 1 ∧ σ 39845968 = some ⟨3, 1, [I n]⟩ ∧ σ 39845984 = some ⟨3, 1, [I a]⟩ ∧ σ 39846000 = some ⟨3, 1, [I b]⟩ ∧ σ 39846048 = some ⟨108, 1, [.mref 39846448]⟩ ∧ σ 39846448 = some ⟨108, 0, (kvB (keysF l n a b i)).map entA⟩)
    (g := 79) (caps := [.pt (UPS l) 0]) ?_ ?_ ?_ ?_ ?_ ?_ ?_ ?_
  · simp -implicitDefEqProofs (disch := omega) only [go_sem]
  · rw [only_none]; exact maps_sok l hl
  · exact mpsX_len _ _
  · simp -implicitDefEqProofs (disch := omega) only [go_sem]
  · simp -implicitDefEqProofs (disch := omega) only [go_sem]
  · refine ⟨_, 0, rfl, rfl, by omega, ?_⟩
    simp -implicitDefEqProofs (disch := omega) only [go_sem]
    rfl
  · rintro E0 hE0 y rest σ' ⟨ms, i, hx, hd, hi, m5, m6, m7, mA, mM⟩
    have e5 : E0 5 = .ptr 39845968 1 0 0 := by rw [hE0]; simp -implicitDefEqProofs (disch := omega) only [go_sem]
    have e6 : E0 6 = .ptr 39845984 1 0 0 := by rw [hE0]; simp -implicitDefEqProofs (disch := omega) only [go_sem]
    have e7 : E0 7 = .ptr 39846000 1 0 0 := by rw [hE0]; simp -implicitDefEqProofs (disch := omega) only [go_sem]
    have eA : E0 10 = .ptr 39846048 1 0 0 := by rw [hE0]; simp -implicitDefEqProofs (disch := omega) only [go_sem]
    clear hE0
    cases ms with
    | nil => cases hx
    | cons m r =>
      rw [mpsX, List.cons.injEq] at hx
      obtain ⟨rfl, rfl⟩ := hx
      have hi1 : i < (mapsF [] l).length := by
        have := congrArg List.length hd
        simp at this; omega
      have hgm : gd (mapsF [] l) i = m := by have := List.getElem?_drop (xs := mapsF [] l) (i := i) (j := 0); rw [hd] at this; simp at this; unfold gd; rw [List.getD_eq_getElem?_getD, ← this]; rfl
      have hm : mapV l i = m := hgm
      have hd' : (mapsF [] l).drop (i + 1) = r := by rw [← List.drop_drop, hd]; rfl
      have hv := (mapV_spec h1 (v := i) (by omega)).1
      have hh := holder_ev m n (hm ▸ hv)
      rw [← hm, heldV_map h1 (by omega), hm] at hh
      have hs : keysF l n a b (i + 1) = if a ≤ i ∧ i ≤ b then addK (keysF l n a b i) (heldV l n i) else keysF l n a b i := rfl
      generalize heldV l n i = w at *
      generalize hR : rQ _ _ E0 _ = Q
      have hK : ∀ (E : Env) (σ : Store), σ 39845968 = some ⟨3, 1, [I n]⟩ → σ 39845984 = some ⟨3, 1, [I a]⟩ → σ 39846000 = some ⟨3, 1, [I b]⟩ → σ 39846048 = some ⟨108, 1, [.mref 39846448]⟩ → σ 39846448 = some ⟨108, 0, (kvB (keysF l n a b (i + 1))).map entA⟩ → Q .normal E σ := by
        intro E σ q1 q2 q3 q4 q5
        rw [← hR]
        refine ⟨inL [], fun _ _ => rfl, ?_⟩
        rw [killS_nil]
        exact ⟨r, i + 1, rfl, hd', by omega, q1, q2, q3, q4, q5⟩
      clear hR
      generalize keysF l n a b i = ks at *
      simp -implicitDefEqProofs (disch := omega) only [go_sem, e5, e6, e7, eA, m5, m6, m7, mA, mM]
      refine callC_at (isIn_ev i a b) ?_
      simp -implicitDefEqProofs (disch := omega) only [go_sem, e5, e6, e7, eA, m5, m6, m7, mA, mM]
      refine branch_mk (fun hc => ?_) (fun hc => ?_)
      · have hc : ((a : Int) ≤ i ∧ (i : Int) ≤ b) := by simpa using hc
        rw [if_pos (by omega)] at hs
        simp -implicitDefEqProofs (disch := omega) only [go_sem, e5, e6, e7, eA, m5, m6, m7, mA, mM]
        refine callC_at hh ?_
        simp -implicitDefEqProofs (disch := omega) only [go_sem, e5, e6, e7, eA, m5, m6, m7, mA, mM]
        refine mapUpdate_mk (kt := 3) (et := 4) (id := 39846448) (e := 108) (l := kvB ks) (n := w) ?_ ?_ ?_ und_mp und_int ?_
        · simp -implicitDefEqProofs (disch := omega) only [go_sem, e5, e6, e7, eA, m5, m6, m7, mA, mM]
        · simp -implicitDefEqProofs (disch := omega) only [go_sem, e5, e6, e7, eA, m5, m6, m7, mA, mM]
        · simp -implicitDefEqProofs (disch := omega) only [go_sem, e5, e6, e7, eA, m5, m6, m7, mA, mM]
        · simp -implicitDefEqProofs (disch := omega) only [go_sem, e5, e6, e7, eA, m5, m6, m7, mA, mM]
          rw [put_kv, ← hs]
          refine hK _ _ ?_ ?_ ?_ ?_ ?_
          · simp -implicitDefEqProofs (disch := omega) only [go_sem, m5]
          · simp -implicitDefEqProofs (disch := omega) only [go_sem, m6]
          · simp -implicitDefEqProofs (disch := omega) only [go_sem, m7]
          · simp -implicitDefEqProofs (disch := omega) only [go_sem, mA]
          · simp -implicitDefEqProofs (disch := omega) only [go_sem, mM]
      · have hc : ¬ ((a : Int) ≤ i ∧ (i : Int) ≤ b) := by simpa using hc
        rw [if_neg (by omega)] at hs
        simp -implicitDefEqProofs (disch := omega) only [go_sem, e5, e6, e7, eA, m5, m6, m7, mA, mM]
        refine hK _ _ ?_ ?_ ?_ ?_ ?_
        · simp -implicitDefEqProofs (disch := omega) only [go_sem, m5]
        · simp -implicitDefEqProofs (disch := omega) only [go_sem, m6]
        · simp -implicitDefEqProofs (disch := omega) only [go_sem, m7]
        · simp -implicitDefEqProofs (disch := omega) only [go_sem, mA]
        · simp -implicitDefEqProofs (disch := omega) only [go_sem, mM, hs]
  · rintro E0 hE0 σ' ⟨ms, i, hx, hd, hi, m5, m6, m7, mA, mM⟩
    have eA : E0 10 = .ptr 39846048 1 0 0 := by rw [hE0]; simp -implicitDefEqProofs (disch := omega) only [go_sem]
    clear hE0
    cases ms with
    | cons m r => cases hx
    | nil =>
      have hi3 := congrArg List.length hd
      simp only [List.length_drop, List.length_nil] at hi3
      obtain rfl : i = l.length + 1 := by omega
      clear hi3 hd hx hi m5 m6 m7
      have hne : keysF l n a b (l.length + 1) ≠ [] := fun e => by
        have := (keysF_mem l n a b (heldV l n a) (l.length + 1)).2 ⟨a, by omega, by omega, by omega, rfl⟩
        rw [e] at this; cases this
      have hkn := keysF_nodup l n a b (l.length + 1)
      have hsk := fun o => @sort_keys l h1 n a b (by omega) o
      have hfew := fun o => @keys_few l h1 n a b (by omega) o
      generalize keysF l n a b (l.length + 1) = ks at *
      generalize betF l n a b = R at *
      simp -implicitDefEqProofs (disch := omega) only [go_sem, eA, mA, mM]
      refine freeze_reg Plain.mono [39846048, 39846448] ?_
      simp -implicitDefEqProofs (disch := omega) only [go_sem, eA, mA, mM]
      refine rangeMap_mk (l := kvB ks) (fun p => .int .i64 p.1) (fun p => p.2) (kt := 3) (et := 4) rfl ?_ ?_ und_mp fun r => ?_
      · simp -implicitDefEqProofs (disch := omega) only [go_sem, eA, mA, mM]
      · intro e; cases ks with
        | nil => exact hne rfl
        | cons k ks => cases e
      have hmk : (kvB ks).map (fun p => AV.v (.int .i64 p.1)) = ks.map I := by simp [kvB]
      rw [hmk]
      simp -implicitDefEqProofs (disch := omega) only [go_sem, eA, mA, mM]
      refine loopC_mk (fun k E σ => ∃ (o q : List Int) (last : AV), k = q.length ∧ (o ++ q).Nodup ∧ (∀ x, x ∈ ks ↔ x ∈ o ∨ x ∈ q) ∧ E 13 = .own 39846096 1 0 o.length ∧ σ 39846096 = some ⟨3, 1, o.map I⟩ ∧ E 49 = .v (.pointer (some ⟨r, 0, none⟩)) ∧ E 61 = itA r (q.map I) last) ks.length ⟨[], ks, .any, rfl, hkn, fun x => by simp, ?_⟩ ?_
      · simp -implicitDefEqProofs (disch := omega) only [go_sem]
      clear eA mA mM E0 σ'
      rintro k E σ ⟨o, q, last, hk, hnd, hmem, e13, mO, e49, e61⟩
      simp -implicitDefEqProofs (disch := omega) only [go_sem, e13, e49, e61, mO]
      refine next_mk rfl (by simp -implicitDefEqProofs (disch := omega) only [go_sem, e49]) e61 (fun hq => ?_) (fun l1 kv l2 hq => ?_)
      · obtain rfl : q = [] := by simpa using hq
        rw [List.append_nil] at hnd
        have hso := hsk o hnd fun x => by rw [hmem x]; simp
        have hf := hfew o hnd fun x hx => (hmem x).2 (.inl hx)
        have ho1 : 1 ≤ o.length := by
          rcases Nat.eq_zero_or_pos o.length with h | h
          · obtain rfl : o = [] := List.eq_nil_of_length_eq_zero h
            exact (hne (List.eq_nil_iff_forall_not_mem.2 fun x hx => by have := (hmem x).1 hx; simp at this)).elim
          · exact h
        simp -implicitDefEqProofs (disch := omega) only [go_sem, e13, e49, mO]
        refine callC_sem rfl ?_
        have hsl := sortF_length o
        have hL := sort_lok o ho1 (by omega)
        rw [hso] at hL hsl
        rw [← hsl]
        rw [← hsl] at hL e13
        refine lentI_mk (xs := [.own 39846096 1 0 R.length]) (caps := []) 39846096 13 hL ?_ ?_ ?_ ?_ (by omega) ?_ ?_
        · simp -implicitDefEqProofs (disch := omega) only [go_sem, e13, mO]
        · simp -implicitDefEqProofs (disch := omega) only [go_sem, e13, mO]
        · simp -implicitDefEqProofs (disch := omega) only [go_sem, e13, mO]
        · simp -implicitDefEqProofs (disch := omega) only [go_sem, e13, mO]
        · simp -implicitDefEqProofs (disch := omega) only [go_sem, e13, mO]
        · simp -implicitDefEqProofs (disch := omega) only [go_sem, e13, mO, Tryz.results18]
      · obtain ⟨q1, k', q2, rfl, rfl, rfl, rfl⟩ : ∃ q1 k' q2, q = q1 ++ k' :: q2 ∧ l1 = q1.map I ∧ kv = .int .i64 k' ∧ l2 = q2.map I := by
          obtain ⟨q1, q', h1, h2, h3⟩ := List.map_eq_append_iff.1 hq
          obtain ⟨k', q2, h4, h5, h6⟩ := List.map_eq_cons_iff.1 h3
          exact ⟨q1, k', q2, by rw [h1, h4], h2.symm, by cases h5; rfl, h6.symm⟩
        simp -implicitDefEqProofs (disch := omega) only [go_sem, e13, e49, mO]
        have hol := hfew o (List.nodup_append.1 hnd).1 fun x hx => (hmem x).2 (.inl hx)
        refine entry_mk (r := r) (ks := (q1 ++ q2).map I) (k := .int .i64 k') rfl (by simp -implicitDefEqProofs (disch := omega) only [go_sem, e49]) (by simp -implicitDefEqProofs (disch := omega) only [go_sem]) ?_
        simp -implicitDefEqProofs (disch := omega) only [go_sem, e13, e49, mO]
        refine againQ_mk (q1 ++ q2).length (by rw [hk]; simp) ⟨o ++ [k'], q1 ++ q2, .v (.int .i64 k'), rfl, ?_, ?_, ?_⟩
        · have : (o ++ [k'] ++ (q1 ++ q2)).Perm (o ++ (q1 ++ k' :: q2)) := by
            rw [List.append_assoc]
            exact List.Perm.append_left o (by simpa using (List.perm_middle (a := k') (l₁ := q1) (l₂ := q2)).symm)
          exact this.nodup_iff.2 hnd
        · intro x; rw [hmem x]; simp; 
          constructor
          · rintro (h | h | h | h) <;> simp [h]
          · rintro ((h | h) | h | h) <;> simp [h]
        · simp -implicitDefEqProofs (disch := omega) only [go_sem, e13, e49, mO, kill_itA]
end Go.Proofs.YtndhglacgiidbaaGreatDoor
set_option maxRecDepth 100000
namespace Go.Proofs.YtndhglacgiidbaaGreatDoor
open Go.Vai Go Go.Proofs
open Nat (reduceEqDiff reduceMul reduceAdd reduceDiv reduceLeDiff)
open Int (reduceToNat reduceNe reduceEq reduceLT reduceLE)
section
variable {l : List Up} (h : validT l = true)
include h
theorem len40 : l.length ≤ 40 := (validT_iff.1 h).1
theorem map_at {v : Nat} (hv : v ≤ l.length) : Ev Tryz.prog 14 [UPS l, I v] (.tup [BL (mapV l v), I 0]) := by
  have hm := map_ev l v (by have := len40 h; omega)
  have e : inV l v := ⟨h, by omega, by omega⟩
  rw [if_pos e, if_pos e, Int.toNat_natCast] at hm
  exact hm
theorem held_at {v : Nat} (hv : v ≤ l.length) {n : Int} (hn : inN n) : Ev Tryz.prog 13 [UPS l, I n, I v] (.tup [I (heldV l n v), I 0]) := by
  have hm := held_ev l n v (by have := len40 h; omega)
  have e : inV l v ∧ 0 ≤ n ∧ n ≤ 99999999 := ⟨⟨h, by omega, by omega⟩, hn⟩
  rw [if_pos e, if_pos e, Int.toNat_natCast] at hm
  exact hm
theorem between_at {a b : Nat} (hab : a ≤ b) (hb : b ≤ l.length) {n : Int} (hn : inN n) : Ev Tryz.prog 18 [UPS l, I n, I a, I b] (.tup [SL (betF l n a b), I 0]) := by
  have hm := between_ev l n a b (by have := len40 h; omega)
  have e : inB l n a b := ⟨⟨h, hn⟩, ⟨by omega, by omega⟩, by omega⟩
  rw [if_pos e, if_pos e, Int.toNat_natCast, Int.toNat_natCast] at hm
  exact hm
theorem known_at {t lag : Int} (ht : 0 ≤ t ∧ t ≤ 10000000) (hg : 0 ≤ lag ∧ lag ≤ 100000) : Ev Tryz.prog 12 [UPS l, I t, I lag] (.tup [I (atF l (t - lag) : Nat), I (atF l t : Nat), I 0]) := by
  have hm := known_ev l t lag (by have := len40 h; omega)
  have e : inT l t lag := ⟨ht, hg, h⟩
  rw [if_pos e, if_pos e, if_pos e] at hm
  exact hm
theorem map_ok {v : Nat} (hv : v ≤ l.length) : validB (mapV l v) = true := (mapV_spec h hv).1
end
end Go.Proofs.YtndhglacgiidbaaGreatDoor

/- Trips; the frame -/
import Derived.Test.YtlecbpkidomjbaaGreatDoorKH
import Derived.Test.YtlecbpkidomjbaaGreatDoorRows
import Derived.Test.YtlecbpkidomjbaaGreatDoorCards
import Derived.Test.YtlecbpkidomjbaaGreatDoorTie
import Derived.ProofKit
import Derived.LaidMore
import Derived.OpenShut
import Derived.Stop.Joined
import Derived.Handed
import Derived.Lay
set_option linter.all false
set_option maxRecDepth 100000
namespace Go.Proofs.YtlecbpkidomjbaaGreatDoor
open Go.Proofs.Tryz
open Go.Vai Go Go.Proofs
theorem Jhv : ∀ (n : Nat) (l : List ByteArray) (i : Nat), l.length <= n -> (Jcc l i).length <= l.length
 | 0, l, i, b => by
  have a : Jcc l i = [] := JbI JaG JaW empF (by omega) i
  rw [a]; exact L17 _
 | n + 1, l, i, b => by
  by_cases h : 2 <= l.length
  . have c := JbO (n := l.length) (by omega)
    have d := Jbn l.length; rw [JfU h]
    split
    . have := Jhv n (l.take (Jaq l.length)) i (by rw [L01]; omega)
      rw [L01] at this
      rw [L0e]; omega
    . have := Jhv n (l.drop (Jaq l.length)) (i - Jaq l.length) (by rw [L0g]; omega)
      rw [L0g] at this
      rw [L0e]; omega
  . have a : Jcc l i = [] := JbI JaG JaW empF (by omega) i
    rw [a]; exact L17 _
theorem JvN {c : ByteArray} {r : Rg} {n : Int} {l : List Int} {p : Pt} (h : Jjs c r n l = some p) (k : l.length <= 9223372036854775807) : PtOK p := by
 obtain ⟨_, f, d⟩ := JhV h
 unfold Jjs at h
 split at h
 . rename_i g; obtain ⟨o, b, q, m⟩ := g; have b := Jea.1 b
   have a : ∀ j : Nat, (gd r.l j).size <= 1000 := λ j => by
    by_cases hj : j < r.l.length
    . exact b.2.2 _ (Jaj _ _ hj)
    . rw [JlE _ _ (by omega)]; exact L17 _
   refine ⟨?_, ?_, ?_⟩
   . rw [f]; simp only [JiU]; rw [Jeb]; omega
   . rw [d, L0c]; exact k
   . intro x e
     rw [d] at e
     obtain ⟨i, _, rfl⟩ := L05.1 e
     refine ⟨?_, ?_⟩
     . have := a i.toNat; simp only [Je4]; omega
     . have := Jhv (r.l.take n.toNat).length (r.l.take n.toNat) i.toNat (L09 _)
       rw [L01] at this
       show (Jcc (r.l.take n.toNat) i.toNat).reverse.length <= _
       rw [L1k]; omega
 . cases h
theorem Jmp (n : Nat) (i : Int) (b : 0 <= i /\ i < n) : ∀ (l : List Int) (o : Option Int), (∀ q, o = some q -> q < i) -> (∀ q ∈ l, q < i) -> ascN n o l = true -> ascN n o (l ++ [i]) = true
 | [], o, d, _, _ => by
  rw [L1T, ascN, ascN, Bool.and_true, decide_eq_true_iff]; exact ⟨b, d⟩
 | x :: l, o, d, c, h => by
  rw [ascN, L00] at h; rw [L0L, ascN, L00]
  exact ⟨h.1, Jmp n i b l (some x) (λ q a => by cases a; exact c _ (by simp)) (λ q a => c q (L1z _ a)) h.2⟩
theorem Jmk (w : List Int) : ∀ i, ∀ q ∈ witN w i, 0 <= q /\ q < i
 | 0, q, h => by cases h
 | i + 1, q, h => by
  rw [witN] at h
  rcases L0t.1 h with h | h
  . have := Jmk w i q h; omega
  . split at h
    . obtain rfl := L0u.1 h; omega
    . cases h
theorem Jnr (w : List Int) (n : Nat) : ∀ i, i <= n -> ascN n none (witN w i) = true
 | 0, _ => rfl
 | i + 1, h => by
  have ih := Jnr w n i (by omega)
  rw [witN]
  split
  . exact Jmp n i (by omega) _ _ (λ q hq => by cases hq) (λ q hq => (Jmk w i q hq).2) ih
  . rw [L0F]; exact ih
theorem JgM (w : List Int) : ∀ i, (witN w i).length <= i
 | 0 => L09 _
 | i + 1 => by
  have := JgM w i
  rw [witN, L0b]
  split <;> simp <;> omega
theorem Jq1 (l : Lg) (e : Int) : (recF l e).size <= 60 := by
 unfold recF recN; simp only [L0w]; have a := Jay 8; have c := Jay l.f; have d := Jay l.t; have h := Jay e
 have i := Jay (if e = 1 then l.g else l.k).b
 have j := Jay (if e = 1 then l.g else l.k).e
 omega
theorem JrK (n : Nat) (j : Nat) : (gd (upsN n) j).size <= 8 := by
 by_cases hj : j < (upsN n).length
 . have a := Jaj (upsN n) j hj; generalize gd (upsN n) j = s at *
   obtain ⟨v, _, rfl⟩ := L05.1 a
   exact L09 _
 . rw [JlE _ _ (by omega)]; exact L17 _
theorem JrP (n : Nat) (legs : List Lg) (w : Int) : (witE Ja7 (upsN n) legs w).size <= 1000 := by
 unfold witE
 split
 . have := JrK n (Jag (w.tdiv 3) (upsN n).length).toNat; omega
 . split
   . have := Jq1 (gd legs (Jag (w.tdiv 6) legs.length).toNat) (1 + Jag (w.tdiv 3) 2); omega
   . exact L0v rfl
theorem Jqo (c : Int) : keyS c = keyF c := rfl
theorem JjC (n : Nat) (legs : List Lg) (w : List Int) : Jjs (keyS 0) (witR Ja7 (upsN n) legs w) (min w.length 12 : Nat) (witN w (min w.length 12)) = some (witP Ja7 (upsN n) legs w) := by
 have a : (witR Ja7 (upsN n) legs w).l.length = min w.length 12 := by simp only [witR, L0c, L01]; omega
 unfold Jjs; rw [if_pos, L1e]
 . rfl
 . refine ⟨Jqn 0, Jea.2 ⟨?_, by rw [a]; omega, λ s b => ?_⟩, by rw [a]; omega, ?_⟩
   . simp only [witR]; omega
   . obtain ⟨x, _, rfl⟩ := L05.1 b
     exact JrP n legs x
   . rw [L1e]; exact Jnr w _ _ (L09 _)
theorem JrR (n : Nat) (legs : List Lg) (w : List Int) : Jbu (keyS 0) (witP Ja7 (upsN n) legs w) = true := (JhV (JjC n legs w)).1
theorem Jzx (n : Nat) (legs : List Lg) (w : List Int) : PtOK (witP Ja7 (upsN n) legs w) := by
 refine JvN (JjC n legs w) ?_
 have := JgM w (min w.length 12)
 omega
theorem JmX (a : List (Int × Int)) : ∀ (l : List Lg) (v : Nat), (∀ i, i < l.length -> legF (gd l i) = true /\ (gd l i).f = (gd a (v + i)).1 /\ (gd l i).t = (gd a (v + i + 1)).1) -> JcS a v l = true
 | [], _, _ => rfl
 | x :: l, v, h => by
  rw [JcS, L00, L00, decide_eq_true_iff]
  have b := h 0 (by simp)
  rw [JaL] at b
  refine ⟨b, JmX a l (v + 1) λ i c => ?_⟩
  have := h (i + 1) (by simpa using c)
  rw [Jas, show v + (i + 1) = v + 1 + i by omega] at this
  exact this
theorem Jge (x : Nm) (a : List (Int × Int)) : (Ji2 x a).length = a.length - 1 := by simp [Ji2]
theorem JmY (x : Nm) (a : List (Int × Int)) {i : Nat} (h : i < a.length - 1) : gd (Ji2 x a) i = legM x a i := by simp [Ji2, gd, h]
theorem Jdw (n : Nat) : (upsN n).length = n := by simp [upsN]
theorem JmR (x : List (Int × Int)) : 0 <= (JdM x).2 /\ (JdM x).2 <= 20 := by
 have h := JdL x
 exact (Jd2 x _ (Jaj (JaA x) _ (by omega))).2
theorem JbQ (x : Nm) : JbA (Jca x) = true := by
 have hl := JdL x.hops; have h2 := JmR x.hops
 have hup : ((upsN ((JdM x.hops).2 + 2).toNat).length : Int) = (JdM x.hops).2 + 2 := by rw [Jdw]; omega
 unfold JbA; simp only [L00, decide_eq_true_iff, L0f]
 refine ⟨JrR _ _ _, ⟨⟨hl.1, by simp only [Jca]; omega⟩, Jge _ _, by simp [Jca], by simp [Jca], by simp [Jca], ?_⟩, ?_, ?_, ?_, ?_, ?_⟩
 . simp only [Jca]; omega
 . intro c hc
   obtain ⟨i, _, rfl⟩ := L05.1 hc
   exact (Jsj _ _ _ _).2
 . intro c hc
   obtain ⟨i, _, rfl⟩ := L05.1 hc
   exact Jtr _ _
 . intro c hc
   obtain ⟨i, _, rfl⟩ := L05.1 hc
   exact Jvw _ _
 . refine JmM _ _ _ (λ h hh => ?_) (λ v hv => ?_)
   . obtain ⟨i, hi, rfl⟩ : ∃ i, i < (JaA x.hops).length /\ gd (JaA x.hops) i = h := by
      have hh' : h ∈ JaA x.hops := hh
      obtain ⟨i, hi, e⟩ := L1l.1 hh'
      exact ⟨i, hi, by rw [gd, L0X, L08 hi]; exact e⟩
     have a := Jd2 x.hops _ hh
     have b := JmN x.hops ((JaA x.hops).length - 1 - i) i (by omega) (by omega)
     refine ⟨a.1, by omega, ?_⟩
     show _ < (((upsN ((JdM x.hops).2 + 2).toNat).length : Nat) : Int)
     omega
   . show (gd ((-1, 0) :: JaA x.hops) (v + 1)).1 ≠ _ /\ _
     have hv' : v < (JaA x.hops).length := hv
     show (gd ((-1, 0) :: JaA x.hops) (v + 1)).1 ≠ (gd ((-1, 0) :: JaA x.hops) v).1 /\ (gd ((-1, 0) :: JaA x.hops) v).2 <= (gd ((-1, 0) :: JaA x.hops) (v + 1)).2
     rw [Jas]
     cases v with
     | zero =>
      have a := Jd2 x.hops _ (Jaj (JaA x.hops) 0 hv'); rw [JaL]
      simp only
      omega
     | succ v =>
      rw [Jas]
      exact JfE x.hops hv'
 . refine JmX _ _ _ λ i hi => ?_
   have hi' : i < (JaA x.hops).length - 1 := by rw [<- Jge x]; exact hi
   show legF (gd (Ji2 x (JaA x.hops)) i) = true /\ (gd (Ji2 x (JaA x.hops)) i).f = _ /\ (gd (Ji2 x (JaA x.hops)) i).t = _
   rw [JmY _ _ hi', L0p]
   exact ⟨Jqr x (by omega), rfl, rfl⟩
abbrev HPP (h : Int × Int) : AV := .agg [I h.1, I h.2]
abbrev LGS (l : List Lg) : AV := .sl 6 (l.map LGP)
abbrev TPP (t : Tp) : AV := .agg [HPS t.hops, LGS t.legs, CKS t.cks, TFS t.tfs, SL t.offs, Str t.key, I t.part.h.c, I t.part.h.n, Str t.part.h.r, Str t.part.h.s, ITS t.part.l, Str t.call, SLs t.ups]
abbrev TRP (t : Tp) : AV := .agg [HPS t.hops, LGS t.legs, CKS t.cks, TFS t.tfs, SL t.offs, Str t.key, I t.part.h.c, I t.part.h.n, Str t.part.h.r, Str t.part.h.s, ITS t.part.l, Str t.call, SLs t.ups, .mp ((evM (evF t.key t.part)).map entS)]
section
variable (p : Nat -> Bool) (l : List Lg)
@[go_sem] theorem JwL : AV.namesL p (l.map LGP) = false := Jak p l LGP λ _ => rfl
@[go_sem] theorem Jya : AV.flatL (l.map LGP) = true := JaP l LGP λ _ => rfl
@[go_sem] theorem Jxo : Jbv 6 (l.map LGP) = true := Jaw 6 l LGP λ _ => ⟨rfl, rfl⟩
end
section
variable (p : Nat -> Bool) (l : List (Int × Int))
@[go_sem] theorem JwJ : AV.namesL p (l.map HPP) = false := Jak p l HPP λ _ => rfl
@[go_sem] theorem Jx9 : AV.flatL (l.map HPP) = true := JaP l HPP λ _ => rfl
@[go_sem] theorem Jxm : Jbv 2 (l.map HPP) = true := Jaw 2 l HPP λ _ => ⟨rfl, rfl⟩
end
structure Tp.ok (t : Tp) : Prop where
 part : PtOK t.part
 rds : ∀ c ∈ t.cks, c.r.length <= 9223372036854775807
 good : ∀ x ∈ t.tfs, JaT x = true
 hops : t.hops.length <= 9223372036854775807
 legs : t.legs.length <= 9223372036854775807
 cks : t.cks.length <= 9223372036854775807
 tfs : t.tfs.length <= 9223372036854775807
 offs : t.offs.length <= 9223372036854775807
 ups : t.ups.length <= 9223372036854775807
theorem JsU (c : Ck) (a : c.r.length <= 9223372036854775807) : Ev prog 61 [CKP c] (B (!Jbe c)) := by
 refine EV func61 ?_
 refine SA ?_
 refine Jaa (JhW c a) ?_
 exact SB
theorem JsV (x : Tf) (h : JaT x = true) : Ev prog 64 [TF x] (B (!JaT x)) := by
 rw [h]
 refine EV func64 ?_
 refine SA ?_
 refine Jaa (Jdx x h) ?_
 exact SB
theorem JsW (n : Int) : Ev prog 67 [I n] (B (!Jbw n)) := by
 refine EV func67 ?_
 refine SA ?_
 refine Jaa (Jd4 n (-50400) 50400) ?_
 refine SA ?_; try rfl
theorem Jvp {T : Type} (Q : T -> Bool) (l : List T) : (l.any λ x => !Q x) = !l.all Q := by rw [<- Jo9, Bool.not_not]
abbrev opV (z : Bool) (r : AV) : AV := if z = true then .tup [r, I 0] else .tup [.v (.pointer none), I 380]
set_option maxHeartbeats 8000000 in
theorem Jm8 (t : Tp) (ht : t.ok) : Ev prog 36 [TPP t] (opV (JbA t) (.nptr 167 14 [TRP t])) := by
 obtain ⟨Z, o2, o3, o4, o5, o6, o7, o8, o9⟩ := ht; have M := JvB t.key t.part Z
 have O := Ju0 61 [] (λ c => !Jbe c) t.cks (λ c A => JsU c (o2 c A)) (λ _ => rfl) (λ _ => rfl) o6
 have P := Ju3 64 [] (λ c => !JaT c) t.tfs (λ c A => JsV c (o3 c A)) (λ _ => rfl) (λ _ => rfl) o7
 have Q := Ju1 67 [] (λ c => !Jbw c) t.offs (λ c A => JsW c) (λ _ => rfl) (λ _ => rfl) o8
 rw [Jvp] at O P Q
 have a : JbA t = (Jbu t.key t.part && (decide ((1 <= t.hops.length /\ t.hops.length <= 12) /\ t.legs.length = t.hops.length - 1 /\ t.cks.length = 8 /\ t.tfs.length = 8 /\ t.offs.length = 8 /\ t.ups.length <= 30) &&
  (t.cks.all Jbe && (t.tfs.all JaT && (t.offs.all Jbw && (JdK t.ups.length (-1, 0) t.hops && JcS t.hops 0 t.legs)))))) := rfl
 obtain ⟨N, W⟩ := Jj1 (evF t.key t.part)
 simp only [TRP, opV]; rw [W] at M ⊢; generalize JbA t = z at *; generalize Jbu t.key t.part = g at *; generalize t.cks.all Jbe = b1 at *; generalize t.tfs.all JaT = b2 at *; generalize t.offs.all Jbw = b3 at *
 obtain ⟨hops, legs, cks, tfs, offs, G, ⟨⟨pc, pn, pr, ps⟩, pl⟩, B, ups⟩ := t
 simp only at *
 clear W Z o2 o3
 refine EV func36 ?_
 simp -implicitDefEqProofs (disch := omega) only [go_sem]
 refine Jaa M ?_
 cases g with
 | false =>
  rw [L06] at a; subst a; simp -implicitDefEqProofs (disch := omega) only [go_sem, results36]
 | true =>
 rw [L0d] at a; simp -implicitDefEqProofs (disch := omega) only [go_sem]
 refine Jaa (Jd4 hops.length 1 12) ?_
 by_cases h1 : 1 <= (hops.length : Int) /\ (hops.length : Int) <= 12
 rotate_left
 . rw [decide_eq_false (by omega), L06] at a
   rw [decide_eq_false h1]; subst a; simp -implicitDefEqProofs (disch := omega) only [go_sem, results36]
 rw [decide_eq_true h1]; simp -implicitDefEqProofs (disch := omega) only [go_sem]
 refine Jab (λ R => ?_) (λ R => ?_)
 . rw [decide_eq_false (by omega), L06] at a
   subst a; simp -implicitDefEqProofs (disch := omega) only [go_sem, R, results36]
 simp -implicitDefEqProofs (disch := omega) only [go_sem]
 refine Jab (λ S => ?_) (λ S => ?_)
 . rw [decide_eq_false (by omega), L06] at a
   subst a; simp -implicitDefEqProofs (disch := omega) only [go_sem, S, results36]
 simp -implicitDefEqProofs (disch := omega) only [go_sem]
 refine Jab (λ T => ?_) (λ T => ?_)
 . rw [decide_eq_false (by omega), L06] at a
   subst a; simp -implicitDefEqProofs (disch := omega) only [go_sem, T, results36]
 simp -implicitDefEqProofs (disch := omega) only [go_sem]
 refine Jab (λ U => ?_) (λ U => ?_)
 . rw [decide_eq_false (by omega), L06] at a
   subst a; simp -implicitDefEqProofs (disch := omega) only [go_sem, U, results36]
 simp -implicitDefEqProofs (disch := omega) only [go_sem]
 refine Jab (λ V => ?_) (λ V => ?_)
 . rw [decide_eq_false (by omega), L06] at a
   subst a; simp -implicitDefEqProofs (disch := omega) only [go_sem, V, results36]
 simp -implicitDefEqProofs (disch := omega) only [go_sem]
 rw [decide_eq_true (by omega), L0d] at a
 refine Jaa O ?_
 cases b1 with
 | false =>
  rw [L06] at a; subst a; simp -implicitDefEqProofs (disch := omega) only [go_sem, results36]
 | true =>
 rw [L0d] at a; simp -implicitDefEqProofs (disch := omega) only [go_sem]
 refine Jaa P ?_
 cases b2 with
 | false =>
  rw [L06] at a; subst a; simp -implicitDefEqProofs (disch := omega) only [go_sem, results36]
 | true =>
 rw [L0d] at a; simp -implicitDefEqProofs (disch := omega) only [go_sem]
 refine Jaa Q ?_
 cases b3 with
 | false =>
  rw [L06] at a; subst a; simp -implicitDefEqProofs (disch := omega) only [go_sem, results36]
 | true =>
 rw [L0d] at a; simp -implicitDefEqProofs (disch := omega) only [go_sem]
 refine Jaf (λ n E D => ∃ (i : Nat) (x : Int × Int), i + n = hops.length /\ z = (JdK ups.length x (hops.drop i) && JcS hops 0 legs) /\ E 1 = .ptr 77594640 13 0 0 /\ E 4 = .mp ((mI N).map entS) /\ E 6 = .ptr 77594720 2 0 0 /\ E 77 = HPS hops /\ E 78 = I hops.length /\ E 79 = I i /\
  D 77594640 = some ⟨41, 13, [.agg [HPS hops, LGS legs, CKS cks, TFS tfs, SL offs, Str G, I pc, I pn, Str pr, Str ps, ITS pl, Str B, SLs ups]]⟩ /\ D 77594720 = some ⟨104, 2, [.agg [I x.1, I x.2]]⟩) hops.length ⟨0, (-1, 0), by omega, a, ?_⟩ ?_
 . simp -implicitDefEqProofs (disch := omega) only [go_sem]; try rfl
 clear a
 rintro n E D ⟨i, ⟨la, Y⟩, X, a, o, p, s, j, k, m, q, w⟩
 simp -implicitDefEqProofs (disch := omega) only [go_sem, o, p, s, j, k, m, q, w]
 refine Jab (λ A => ?_) (λ A => ?_)
 . have C : i < hops.length := by omega
   rw [JaD hops i C, JdK, L1o] at a; generalize y : gd hops i = h at *; obtain ⟨K, L⟩ := h
   simp only at *
   simp -implicitDefEqProofs (disch := omega) only [go_sem, y, o, p, s, j, k, m, q, w]
   refine Jaa (Jdj K) ?_
   by_cases H : 0 <= K /\ K <= 7
   rotate_left
   . rw [decide_eq_false (by omega), L06] at a
     rw [decide_eq_false H]; subst a; simp -implicitDefEqProofs (disch := omega) only [go_sem, y, o, p, s, j, k, m, q, w, results36]
   rw [decide_eq_true H]; simp -implicitDefEqProofs (disch := omega) only [go_sem, y, o, p, s, j, k, m, q, w]
   refine Jab (λ J => ?_) (λ J => ?_)
   . rw [decide_eq_false (by omega), L06] at a
     subst a; simp -implicitDefEqProofs (disch := omega) only [go_sem, y, J, o, p, s, j, k, m, q, w, results36]
   simp -implicitDefEqProofs (disch := omega) only [go_sem, y, o, p, s, j, k, m, q, w]
   refine Jaa (Jd4 L Y 29) ?_
   by_cases q3 : Y <= L /\ L <= 29
   rotate_left
   . rw [decide_eq_false (by omega), L06] at a
     rw [decide_eq_false q3]; subst a; simp -implicitDefEqProofs (disch := omega) only [go_sem, y, o, p, s, j, k, m, q, w, results36]
   rw [decide_eq_true q3]; simp -implicitDefEqProofs (disch := omega) only [go_sem, y, o, p, s, j, k, m, q, w]
   refine Jab (λ q4 => ?_) (λ q4 => ?_)
   . rw [decide_eq_false (by omega), L06] at a
     subst a; simp -implicitDefEqProofs (disch := omega) only [go_sem, y, q4, o, p, s, j, k, m, q, w, results36]
   rw [decide_eq_true (by omega), L0d] at a
   simp -implicitDefEqProofs (disch := omega) only [go_sem, y, o, p, s, j, k, m, q, w]
   refine Jad (hops.length - (i + 1)) (by omega) ⟨i + 1, (K, L), by omega, a, ?_⟩
   simp -implicitDefEqProofs (disch := omega) only [go_sem, y, o, p, s, j, k, m, q, w]; try rfl
 obtain rfl : i = hops.length := by omega
 rw [L0H, JdK, L0d] at a; simp -implicitDefEqProofs (disch := omega) only [go_sem, o, p, s, j, k, m, q, w]; clear s j k m w A X
 have F : z = JcS hops 0 (legs.drop 0) := a
 refine Jaf (λ n E D => ∃ (i : Nat), i + n = legs.length /\ z = JcS hops i (legs.drop i) /\ E 1 = .ptr 77594640 13 0 0 /\ E 4 = .mp ((mI N).map entS) /\ E 113 = LGS legs /\ E 114 = I legs.length /\ E 115 = I i /\
  D 77594640 = some ⟨41, 13, [.agg [HPS hops, LGS legs, CKS cks, TFS tfs, SL offs, Str G, I pc, I pn, Str pr, Str ps, ITS pl, Str B, SLs ups]]⟩) legs.length ⟨0, by omega, F, ?_⟩ ?_
 . simp -implicitDefEqProofs (disch := omega) only [go_sem, o, p, q]; try rfl
 clear a F o p q E D n
 rintro n E D ⟨i, X, a, o, p, d, e, f, q⟩
 simp -implicitDefEqProofs (disch := omega) only [go_sem, o, p, d, e, f, q]
 refine Jab (λ A => ?_) (λ A => ?_)
 . have C : i < legs.length := by omega
   have aa : i + 1 < hops.length := by omega
   rw [JaD legs i C, JcS, L1o] at a; have c3 := JiX (gd legs i); generalize r : gd legs i = l at *; generalize legF l = b at *; obtain ⟨lf, lt, lg, lk⟩ := l
   simp only at *
   simp -implicitDefEqProofs (disch := omega) only [go_sem, r, o, p, d, e, f, q]
   refine Jaa c3 ?_
   cases b with
   | false =>
    rw [L06] at a; subst a; simp -implicitDefEqProofs (disch := omega) only [go_sem, r, o, p, d, e, f, q, results36]
   | true =>
   rw [L0d] at a
   have u : ((i : Int) + 1).toNat = i + 1 := by omega
   simp -implicitDefEqProofs (disch := omega) only [go_sem, r, o, p, d, e, f, q, u]
   refine Jab (λ H => ?_) (λ H => ?_)
   . rw [decide_eq_false (by omega), L06] at a
     subst a; simp -implicitDefEqProofs (disch := omega) only [go_sem, r, H, o, p, d, e, f, q, u, results36]
   simp -implicitDefEqProofs (disch := omega) only [go_sem, r, o, p, d, e, f, q, u]
   refine Jab (λ J => ?_) (λ J => ?_)
   . rw [decide_eq_false (by omega), L06] at a
     subst a; simp -implicitDefEqProofs (disch := omega) only [go_sem, r, J, o, p, d, e, f, q, u, results36]
   rw [decide_eq_true (by omega), L0d] at a
   simp -implicitDefEqProofs (disch := omega) only [go_sem, r, o, p, d, e, f, q, u]
   refine Jad (legs.length - (i + 1)) (by omega) ⟨i + 1, by omega, a, ?_⟩
   simp -implicitDefEqProofs (disch := omega) only [go_sem, r, o, p, d, e, f, q, u]; try rfl
 obtain rfl : i = legs.length := by omega
 rw [L0H, JcS] at a; subst a; simp -implicitDefEqProofs (disch := omega) only [go_sem, o, p, d, e, f, q, results36]
theorem Jvz (t : Tp) (a : t.ok) (h : JbA t = true) : Ev prog 36 [TPP t] (.tup [.pt (TRP t) 0, I 0]) := by
 have := Jm8 t a
 rw [h] at this
 exact Jch (r := .tup [.nptr 167 14 [TRP t], I 0]) this _
theorem JsX (t : Tp) (a : t.ok) (h : JbA t = false) : Ev prog 36 [TPP t] (.tup [.v (.pointer none), I 380]) := by
 have := Jm8 t a
 rw [h] at this; exact this
theorem Jaz {t : Tp} : JbA t = true ↔ Jbu t.key t.part = true /\ ((1 <= t.hops.length /\ t.hops.length <= 12) /\ t.legs.length = t.hops.length - 1 /\ t.cks.length = 8 /\ t.tfs.length = 8 /\ t.offs.length = 8 /\ t.ups.length <= 30) /\
 t.cks.all Jbe = true /\ t.tfs.all JaT = true /\ t.offs.all Jbw = true /\ JdK t.ups.length (-1, 0) t.hops = true /\ JcS t.hops 0 t.legs = true := by
 unfold JbA; simp only [L00, decide_eq_true_iff]
theorem Jfp {t : Tp} (h : JbA t = true) {i : Nat} (a : i < t.hops.length) : (0 <= (gd t.hops i).1 /\ (gd t.hops i).1 <= 7) /\ (0 <= (gd t.hops i).2 /\ (gd t.hops i).2 <= 29) /\ (gd t.hops i).2 < t.ups.length :=
 Jp7 t.ups.length t.hops (-1, 0) (Jaz.1 h).2.2.2.2.2.1 i a
theorem JgK {t : Tp} (h : JbA t = true) {i : Nat} (a : i < t.legs.length) : legF (gd t.legs i) = true /\ (gd t.legs i).f = (gd t.hops i).1 /\ (gd t.legs i).t = (gd t.hops (i + 1)).1 := by
 have := Jqs t.hops t.legs 0 (Jaz.1 h).2.2.2.2.2.2 i a
 rw [L0p] at this; exact this
set_option maxHeartbeats 2000000 in
theorem Js5 (t : Tp) (h : JbA t = true) (i : Nat) (s : i < t.legs.length) : Ev prog 72 [.pt (TRP t) 0, I i] (I (payF t i)) := by
 have u := (Jaz.1 h).2.1
 have o := λ i => Jfp h (i := i)
 have b : payF t i = if i = 0 then (gd t.hops 0).1
  else if (gd t.hops (i - 1)).2 + 1 < t.ups.length /\ Jbz (evF t.key t.part) (gd t.ups ((gd t.hops (i - 1)).2 + 1).toNat) t.call = 1 then (gd t.hops (i - 1)).1
  else (gd t.hops i).1 := rfl
 have j := JmF (evF t.key t.part) (gd t.ups ((gd t.hops (i - 1)).2 + 1).toNat) t.call
 obtain ⟨N, l⟩ := Jj1 (evF t.key t.part)
 simp only [TRP] at *; rw [l] at j ⊢; generalize payF t i = P at *; generalize Jbz (evF t.key t.part) (gd t.ups ((gd t.hops (i - 1)).2 + 1).toNat) t.call = w at *
 obtain ⟨hops, legs, cks, tfs, offs, q, ⟨⟨A, C, D, E⟩, B⟩, k, ups⟩ := t
 simp only at *
 clear l h
 refine EV func72 ?_
 refine SD ?_
 refine Jab (λ m => ?_) (λ m => ?_)
 . obtain rfl : i = 0 := by omega
   rw [if_pos rfl] at b
   have n : 0 < hops.length := by omega
   simp -implicitDefEqProofs (disch := omega) only [go_sem, b, results72]; try rfl
 rw [if_neg (by omega)] at b
 have c : ((i : Int) - 1).toNat = i - 1 := by omega
 have g : i - 1 < hops.length := by omega
 have p : i < hops.length := by omega
 obtain ⟨F, G, H⟩ := o _ g
 generalize d : gd hops i = y at *; generalize a : gd hops (i - 1) = x at *; obtain ⟨J, r⟩ := x; obtain ⟨K, L⟩ := y
 simp only at *
 simp -implicitDefEqProofs (disch := omega) only [go_sem, c, d, a]
 refine Jab (λ f => ?_) (λ f => ?_)
 . have z : (r + 1).toNat < ups.length := by omega
   simp -implicitDefEqProofs (disch := omega) only [go_sem, c, d, a]
   refine Jaa j ?_
   simp -implicitDefEqProofs (disch := omega) only [go_sem, c, d, a]
   refine Jab (λ e => ?_) (λ e => ?_)
   . rw [if_pos ⟨f, e⟩] at b; subst b; simp -implicitDefEqProofs (disch := omega) only [go_sem, c, d, a, e, results72]
   . rw [if_neg (λ h => e h.2)] at b
     subst b; simp -implicitDefEqProofs (disch := omega) only [go_sem, c, d, a, e, results72]
 . rw [if_neg (λ h => f h.1)] at b
   subst b; simp -implicitDefEqProofs (disch := omega) only [go_sem, c, d, a, results72]
theorem Jsb (t : Tp) : Ev prog 38 [.pt (TRP t) 0] (.clo 71 [.pt (.pt (TRP t) 0) 0]) := by
 refine Jch (r := .clo 71 [.nptr 114 1 [.pt (TRP t) 0]]) ?_ _
 refine EV func38 ?_
 exact SB
abbrev BLP (b : Bl) : AV := .agg [I b.p, I b.q, I b.f, I b.t, I b.a]
abbrev BLS (l : List Bl) : AV := .sl 5 (l.map BLP)
abbrev BW (b : Bl) : List AV := [BLP b]
section
variable (p : Nat -> Bool) (l : List Bl)
@[go_sem] theorem JwF : AV.namesL p (l.map BLP) = false := Jak p l BLP λ _ => rfl
@[go_sem] theorem Jx8 : AV.flatL (l.map BLP) = true := JaP l BLP λ _ => rfl
@[go_sem] theorem Jxj : Jbv 5 (l.map BLP) = true := Jaw 5 l BLP λ _ => ⟨rfl, rfl⟩
end
@[go_sem] theorem Jwe (l : List Bl) (a b c d e : Int) : l.map BLP ++ [.agg [.v (.int .i64 a), .v (.int .i64 b), .v (.int .i64 c), .v (.int .i64 d), .v (.int .i64 e)]] = (l ++ [(⟨a, b, c, d, e⟩ : Bl)]).map BLP := by simp
theorem Jhm (p : Nat -> Bool) (l : List Bl) : AV.namesL p ((l.map BW).map .tup) = false := by
 induction l with
 | nil => rfl
 | cons q l a =>
  show AV.namesL p (.tup (BW q) :: (l.map BW).map .tup) = false
  simp only [go_sem, a]
  first | done | simp
attribute [go_sem] Jhm
@[go_sem] theorem JwG (p : Nat -> Bool) (l : List Bl) : AV.namesL p (l.map (AV.tup ∘ BW)) = false := by
 rw [<- L19]; exact Jhm p l
abbrev TRQ (t : Tp) (N : List (ByteArray × Nat)) : AV := .agg [HPS t.hops, LGS t.legs, CKS t.cks, TFS t.tfs, SL t.offs, Str t.key, I t.part.h.c, I t.part.h.n, Str t.part.h.r, Str t.part.h.s, ITS t.part.l, Str t.call, SLs t.ups, .mp ((mI N).map entS)]
instance plainZ (P : Program) (f N l : Nat) (a : List Nat) : Plain (spZ P f N l a) := ⟨Jjt P f N l a⟩
set_option maxHeartbeats 8000000 in
theorem Jpm (t : Tp) (B : t.ok) (h : JbA t = true) : SOK prog 71 [.pt (.pt (TRP t) 0) 0] (stO []) ((JaZ t).map BW) := by
 have hl := (Jaz.1 h).2.1
 obtain ⟨_, _, G, H, w, _, _⟩ := Jaz.1 h
 have p := λ i => JgK h (i := i)
 have e := λ i z => Js5 t h i z
 have F := Jbr t
 have D := λ i z => JjO t (i := i) z
 have o : ∀ i, Jlf t i = ⟨payF t i, (gd t.legs i).t, (Jbo t (gd t.legs i)).1.1, (Jbo t (gd t.legs i)).1.2, amtF (gd t.tfs (gd t.legs i).t.toNat) (gd t.offs (gd t.legs i).t.toNat) (Jbo t (gd t.legs i)).1.1 (Jbo t (gd t.legs i)).1.2⟩ := λ i => rfl
 have g : ∀ l : Lg, legF l = true -> Ev prog 73 [.mp ((evM (evF t.key t.part)).map entS), CKP (gd t.cks l.f.toNat), CKP (gd t.cks l.t.toNat), LGP l] (biV (Jbo t l)) := λ l u => by
  obtain ⟨⟨U, V, X⟩, _⟩ := JbC.1 u
  exact Jpl (evF t.key t.part) _ _ l u (B.rds _ (Jaj _ _ (by omega))) (B.rds _ (Jaj _ _ (by omega)))
 have x : ∀ l : Lg, Jda (Jbo t l).1.1 (Jbo t l).1.2 = true := λ l => (Jlg _ _ _ l).1
 have q := B.good
 have s : ∀ n ∈ t.offs, Jbw n = true := L0f.1 w
 obtain ⟨N, K⟩ := Jj1 (evF t.key t.part)
 simp only [TRP] at *; rw [K] at e g ⊢
 have e : ∀ i, i < t.legs.length -> Ev prog 72 [.pt (TRQ t N) 0, I i] (I (payF t i)) := e
 show SOK _ _ [.pt (.pt (TRQ t N) 0) 0] _ _
 generalize JaZ t = L at *; generalize Jbo t = M at *; generalize Jlf t = BF at *; generalize payF t = O at *; clear K h B G H w
 refine Jro [4, 5] func71 rfl (by kernel_rfl) mo (nb rfl) rfl ?_ rfl λ y => ?_
 . exact Jhm allB _
 have h0 : ((L.map BW).map AV.tup) = ((L.drop 0).map BW).map AV.tup := rfl
 refine SD ?_; rw [h0]
 refine Jaf (λ n E σ => ∃ (i : Nat), i + n = t.legs.length /\ E 0 = .yld y /\ E 1 = .pt (.pt (TRQ t N) 0) 0 /\ E 10 = LGS t.legs /\ E 11 = I t.legs.length /\ E 12 = I i /\ E 81 = .tup (((L.drop i).map BW).map .tup)) t.legs.length ⟨0, by omega, ?_⟩ ?_
 . refine SD ?_; try rfl
 rintro n E σ ⟨i, z, k, m, b, c, d, a⟩
 simp -implicitDefEqProofs (disch := omega) only [go_sem, k, m, b, c, d, a]
 refine Jab (λ hc => ?_) (λ hc => ?_)
 . have r : i < t.legs.length := by omega
   obtain ⟨C, Y, Z⟩ := p i r
   have Q := e i r; have R := g (gd t.legs i) C; have S := x (gd t.legs i); have J := o i
   obtain ⟨⟨U, V, X⟩, _⟩ := JbC.1 C
   rw [JaD L i (by omega), D i r, J] at a
   have T := Jo7 (gd t.tfs (gd t.legs i).t.toNat) (gd t.offs (gd t.legs i).t.toNat) _ _ (q _ (Jaj _ _ (by omega))) (s _ (Jaj _ _ (by omega))) S
   have b1 : (gd t.legs i).f.toNat < t.cks.length := by omega
   have b2 : (gd t.legs i).t.toNat < t.cks.length := by omega
   have b3 : (gd t.legs i).t.toNat < t.tfs.length := by omega
   have b4 : (gd t.legs i).t.toNat < t.offs.length := by omega
   clear J o g e x p C Y Z; generalize hW : M (gd t.legs i) = W at *; generalize O i = P at *; generalize hA : amtF (gd t.tfs (gd t.legs i).t.toNat) (gd t.offs (gd t.legs i).t.toNat) W.1.1 W.1.2 = A at *; generalize j : gd t.legs i = l at *; obtain ⟨lf, lt, lg, lk⟩ := l
   obtain ⟨⟨w1, w2⟩, w3⟩ := W
   simp only at *
   clear hW hA; simp -implicitDefEqProofs (disch := omega) only [go_sem, k, m, b, c, d, a, j]
   refine Jaa Q ?_
   simp -implicitDefEqProofs (disch := omega) only [go_sem, k, m, b, c, d, a, j]
   refine Jjj Plain.mono ?_
   simp -implicitDefEqProofs (disch := omega) only [go_sem, k, m, b, c, d, a, j, false_and, and_self]
   refine Jaa R ?_
   simp -implicitDefEqProofs (disch := omega) only [go_sem, k, m, b, c, d, a, j, false_and, and_self]
   refine Jjj Plain.mono ?_
   simp -implicitDefEqProofs (disch := omega) only [go_sem, k, m, b, c, d, a, j, false_and, and_self]
   refine Jaa T ?_
   simp -implicitDefEqProofs (disch := omega) only [go_sem, k, m, b, c, d, a, j, false_and, and_self]
   refine ⟨?_, .inr trivial⟩
   refine Jad (t.legs.length - (i + 1)) (by omega) ⟨i + 1, by omega, ?_⟩
   simp -implicitDefEqProofs (disch := omega) only [go_sem, k, m, b, c, d, a]; try rfl
 . obtain rfl : i = t.legs.length := by omega
   rw [<- F, L0H] at a
   have a : E 81 = .tup [] := a
   simp -implicitDefEqProofs (disch := omega) only [go_sem, a]
   exact .inl trivial
set_option maxHeartbeats 2000000 in
theorem JjJ (X : AV) (L : List Bl) (t : ∀ p, AV.namesL p [.pt X 0] = false) (D : SOK prog 71 [.pt X 0] (stO []) (L.map BW)) (B : L.length <= 1000) :
 Ev prog 70 [.v (.slice none 0 0), .clo 71 [.pt X 0]] (BLS L) := by
 refine EW [1, 4] func70 ?_
 simp -implicitDefEqProofs (disch := omega) only [go_sem, t]
 refine JbD 148897824 148897825 0 0 58 5 (k := ⟨52, 1, [.v (.slice none 0 0)]⟩) (el := .v (.slice none 0 0)) SC (by decide) rfl rfl (by simp) SC rfl ?_
 refine Jfd Plain.mono ?_
 simp -implicitDefEqProofs (disch := omega) only [go_sem, t]
 refine JbG ?_
 refine JcN [] [148897824] 9306212 (L.map BW)
  (λ I e => ∃ (o r : List Bl) (x : Nat), L = o ++ r /\ I = r.map BW /\ x = 148897825 /\ e 148897824 = some ⟨52, 1, [.own x 5 0 o.length]⟩ /\ e x = some ⟨58, 5, o.map BLP⟩)
  (g := 71) (caps := [.pt X 0]) ?_ ?_ ?_ ?_ ?_ ?_ ?_ ?_
 . exact SC
 . rw [JkD]; exact D
 . intro x h
   obtain ⟨y, _, rfl⟩ := L05.1 h
   rfl
 . exact t _
 . exact SC
 . refine ⟨[], L, _, rfl, rfl, rfl, ?_⟩
   simp -implicitDefEqProofs (disch := omega) only [go_sem, t]
   try exact ⟨rfl, rfl⟩
 . rintro s c y m w ⟨o, r, x, f, b, h, i, j⟩
   have l : s 2 = .ptr 148897824 1 0 0 := by rw [c]; exact SC
   clear c
   obtain ⟨q, d, rfl, rfl, rfl⟩ : ∃ q d, r = q :: d /\ y = BW q /\ m = d.map BW := by
    cases r with
    | nil => cases b
    | cons q d => simp only [L0l, List.cons.injEq] at b; exact ⟨q, d, rfl, b.1, b.2⟩
   have C : o.length + 1 <= 1000 := by rw [f, L0b, L0e] at B; omega
   generalize z : rQ _ _ s _ = R
   have A : ∀ (E : Env) (e : Jac) (n : Nat), n = 148897825 -> e 148897824 = some ⟨52, 1, [.own n 5 0 (o.length + 1)]⟩ -> e n = some ⟨58, 5, (o ++ [q]).map BLP⟩ -> R .normal E e := by
    intro E e n F G H
    rw [<- z]
    refine ⟨inL [], λ _ _ => rfl, ?_⟩
    rw [Jcu]
    exact ⟨o ++ [q], d, n, by rw [f, L0E]; rfl, rfl, F, by rw [L0b]; exact G, H⟩
   clear z f; obtain ⟨J, K, M, N, O⟩ := q
   have a : o.take o.length = o := L04
   have u := h; subst h; simp -implicitDefEqProofs (disch := omega) only [go_sem, l, i, j, a]
   refine A _ _ _ u ?_ ?_
   . simp -implicitDefEqProofs (disch := omega) only [go_sem, i, a]
   . simp -implicitDefEqProofs (disch := omega) only [go_sem, j, a]
 . rintro s c w ⟨o, r, x, f, b, h, i, j⟩
   have l : s 2 = .ptr 148897824 1 0 0 := by rw [c]; exact SC
   clear c
   obtain rfl : r = [] := by
    cases r with
    | nil => rfl
    | cons q d => cases b
   rw [L0F] at f; subst f
   have a : L.take L.length = L := L04
   subst h; simp -implicitDefEqProofs (disch := omega) only [go_sem, l, i, j]
   refine Jap Plain.mono [148897824, 148897825] ?_
   simp -implicitDefEqProofs (disch := omega) only [go_sem, l, i, j, a, L0c]
theorem JnR (X : AV) (L : List Bl) (b : ∀ p, AV.namesL p [.pt X 0] = false) (a : ∀ f, [AV.pt X 0].map (res f) = [.pt X 0]) (e : SOK prog 71 [.pt X 0] (stO []) (L.map BW)) (d : L.length <= 1000) :
 Ev prog 37 [.clo 71 [.pt X 0]] (BLS L) := by
 have c := JjJ X L b e d
 refine EV func37 ?_
 refine SA ?_
 refine Jaa c ?_
 exact SB
theorem JjP (t : Tp) (c : t.ok) (h : JbA t = true) : Ev prog 12 [TPP t] (.tup [BLS (JaZ t), I 0]) := by
 have d := Jvz t c h; have e := Jsb t; have b := Jpm t c h
 have a : (JaZ t).length <= 1000 := by
  have := (Jaz.1 h).2.1
  rw [Jbr]; omega
 obtain ⟨N, g⟩ := Jj1 (evF t.key t.part)
 simp only [TRP] at *; rw [g] at d e b; generalize JaZ t = L at *
 obtain ⟨hops, legs, cks, tfs, offs, j, ⟨⟨k, m, n, o⟩, l⟩, f, ups⟩ := t
 simp only at *
 have i := JnR _ L (λ p => by simp only [go_sem]) (λ q => by simp only [go_sem]) b a
 clear b g h c
 refine EV func12 ?_
 refine SA ?_
 refine Jaa d ?_
 refine SA ?_
 refine Jaa e ?_
 refine SA ?_
 refine Jaa i ?_
 exact SB
theorem JnA (t : Tp) (b : t.ok) (h : JbA t = false) : Ev prog 12 [TPP t] (.tup [BLS [], I 380]) := by
 have a := JsX t b h
 refine Jch (r := .tup [.new 58 5 [], I 380]) ?_ _
 refine EV func12 ?_
 refine SA ?_
 refine Jaa a ?_
 exact SB
theorem JBr (p : Pt) : AV.dn (shV (some p)) = false := by
 have h : AV.dnL (p.l.map ITP) = false := Jbc ITP (λ x => by simp only [AV.dn, AV.dnL, Jbc _ (λ x => AV.dn.eq_2 _), L14]) p.l
 simp [AV.dn, AV.dnL, h]
abbrev TPZ (hops : List (Int × Int)) (legs : List Lg) (cks : List Ck) (tfs : List Tf) (offs : List Int) (b a : ByteArray) (ups : List ByteArray) : AV :=
 .agg [HPS hops, LGS legs, CKS cks, TFS tfs, SL offs, Str b, I 0, I 0, .v (.string ByteArray.empty), .v (.string ByteArray.empty), .v (.slice none 0 0), Str a, SLs ups]
def witL (a : ByteArray) (ups : List ByteArray) (legs : List Lg) (w : List Int) (i : Nat) : List ByteArray := (w.take i).map (witE a ups legs)
theorem JtC (a : ByteArray) (ups : List ByteArray) (legs : List Lg) (w : List Int) (i : Nat) (h : i <= w.length) : (witL a ups legs w i).length = i := by
 unfold witL; rw [L0c, L01]; omega
theorem JrQ (a : ByteArray) (ups : List ByteArray) (legs : List Lg) (w : List Int) (i : Nat) (h : i < w.length) : witL a ups legs w (i + 1) = witL a ups legs w i ++ [witE a ups legs (gd w i)] := by
 unfold witL; rw [Jzn w i h, L1c]; rfl
def wiI (T : AV) (w : List Int) (W : List ByteArray) (L : List Int) (i : Nat) (E : Env) (a : Jac) : Prop :=
 E 1 = SL w /\ E 2 = .ptr 65011744 13 0 0 /\ E 4 = .ptr 65011776 5 0 0 /\ E 5 = .ptr 65011792 2 0 0 /\ E 6 = .own 65011808 1 0 L.length /\ E 7 = I i /\
 a 65011744 = some ⟨41, 13, [T]⟩ /\ a 65011776 = some ⟨38, 5, [zP]⟩ /\ a 65011792 = some ⟨144, 2, [.agg [I 0, .own 65011793 1 0 W.length]]⟩ /\
 a 65011793 = some ⟨9, 1, W.map Str⟩ /\ a 65011808 = some ⟨3, 1, L.map I⟩
set_option maxHeartbeats 4000000 in
theorem JoO (hops : List (Int × Int)) (legs : List Lg) (cks : List Ck) (tfs : List Tf) (offs : List Int) (call : ByteArray) (n : Nat) (w : List Int) (hw : ∀ x ∈ w, R64 x) (hwl : w.length <= 9223372036854775807) (hn : 0 < n) (hn2 : n <= 1000) (hll : legs.length <= 1000) (hleg : ∀ i, i < legs.length -> legF (gd legs i) = true) :
 Ev prog 30 [TPZ hops legs cks tfs offs (keyS 0) Ja7 (upsN n), SL w] (PTP (witP Ja7 (upsN n) legs w)) := by
 have hsh := JjC n legs w; have hul := Jdw n; have hl12 := JgM w
 have d2 := Jtf (keyS 0) (witR Ja7 (upsN n) legs w) ((min w.length 12 : Nat) : Int) (witN w (min w.length 12)) (by simp only [witR, L0c, L01]; omega) (by have := hl12 (min w.length 12); omega) (λ x hx => by
  have := Jmk w _ x hx
  constructor <;> omega)
 rw [hsh] at d2
 have hWL : witR Ja7 (upsN n) legs w = ⟨0, witL Ja7 (upsN n) legs w (min w.length 12)⟩ := by
  unfold witR witL
  congr 2
  by_cases h : w.length <= 12
  . rw [L03 h, show min w.length 12 = w.length by omega, L04]
  . rw [show min w.length 12 = 12 by omega]
 rw [hWL] at d2; have hws := JrQ Ja7 (upsN n) legs w; have hwl2 := JtC Ja7 (upsN n) legs w
 have hnl : ∀ i, (witN w i).length <= i := JgM w
 have hns : ∀ i, witN w (i + 1) = witN w i ++ if Jag ((gd w i).tdiv 128) 8 ≠ 7 then [(i : Int)] else [] := λ i => rfl
 have hE : ∀ x, witE Ja7 (upsN n) legs x = if Jag x 3 = 1 then gd (upsN n) (Jag (x.tdiv 3) (upsN n).length).toNat else if Jag x 3 = 2 /\ legs ≠ [] then recF (gd legs (Jag (x.tdiv 6) legs.length).toNat) (1 + Jag (x.tdiv 3) 2) else Ja7 := λ x => rfl
 have hw0 : witL Ja7 (upsN n) legs w 0 = [] := rfl
 have hn0 : witN w 0 = [] := rfl
 have k1 := JmQ; rw [<- Jqo] at k1; clear hsh hWL hl12; generalize witP Ja7 (upsN n) legs w = PT at *; generalize witL Ja7 (upsN n) legs w = W at *; generalize witN w = L at *; generalize witE Ja7 (upsN n) legs = WE at *; generalize upsN n = ups at *; generalize keyS 0 = KEY at *
 obtain ⟨⟨pc, pn, pr, ps⟩, pl⟩ := PT
 refine EW [2, 15] func30 ?_
 refine SA ?_
 refine JbD 65011792 65011793 0 1 9 1 (k := ⟨144, 2, [.agg [I 0, .v (.slice none 0 0)]]⟩) (el := .agg [I 0, .v (.slice none 0 0)]) SC (by decide) rfl rfl (by simp) SC rfl ?_
 refine Jfd Plain.mono ?_
 refine SA ?_
 refine Jkt 0 (λ E σ => wiI (TPZ hops legs cks tfs offs KEY Ja7 ups) w (W (min w.length 12)) (L (min w.length 12)) (min w.length 12) E σ) ?_ ?_
 rotate_left
 . rintro E σ ⟨e1, e2, e4, e5, e6, e7, m2, m4, m5, mW, mL⟩
   have hWi := hwl2 (min w.length 12) (by omega)
   clear hws hns hE hwl2 hnl; generalize W (min w.length 12) = Wm at *; generalize L (min w.length 12) = Lm at *
   have q1 : Wm.take (min w.length 12) = Wm := L03 (by omega)
   have q2 : Lm.take Lm.length = Lm := L04
   refine SA ?_
   refine JlB [65011793, 65011808] ?_
   simp -implicitDefEqProofs (disch := omega) only [go_sem, e1, e2, e4, e5, e6, e7, m2, m4, m5, mW, mL, q1, q2, hWi, L0c, false_and, and_self]
   refine Jaa k1 ?_
   simp -implicitDefEqProofs (disch := omega) only [go_sem, e1, e2, e4, e5, e6, e7, m2, m4, m5, mW, mL, q1, q2, hWi, L0c, false_and, and_self]
   refine Jaa d2 ?_ (h4 := .inr (JBr ⟨⟨pc, pn, pr, ps⟩, pl⟩))
   simp -implicitDefEqProofs (disch := omega) only [go_sem, e1, e2, e4, e5, e6, e7, m2, m4, m5, mW, mL, q1, q2, hWi, L0c, false_and, and_self, results30]
 refine Jaf (λ k E σ => ∃ i : Nat, i + k = 12 /\ i <= w.length /\ wiI (TPZ hops legs cks tfs offs KEY Ja7 ups) w (W i) (L i) i E σ) 12 ⟨0, by omega, by omega, ?_⟩ ?_
 . simp -implicitDefEqProofs (disch := omega) only [go_sem, wiI, hw0, hn0, false_and]; try rfl
 rintro k E σ ⟨i, hk, hiw, e1, e2, e4, e5, e6, e7, m2, m4, m5, mW, mL⟩
 refine SA ?_
 refine Jab (λ hc => ?_) (λ hc => ?_)
 rotate_left
 . obtain rfl : i = min w.length 12 := by omega
   simp -implicitDefEqProofs (disch := omega) only [go_sem, wiI, e1, e2, e4, e5, e6, e7, m2, m4, m5, mW, mL]; try rfl
 refine SA ?_
 refine Jab (λ hc2 => ?_) (λ hc2 => ?_)
 rotate_left
 . obtain rfl : i = min w.length 12 := by omega
   simp -implicitDefEqProofs (disch := omega) only [go_sem, wiI, e1, e2, e4, e5, e6, e7, m2, m4, m5, mW, mL]; try rfl
 have hi12 : i < 12 := by omega
 have hil : i < w.length := by omega
 obtain ⟨r1, r2⟩ := hw _ (Jaj w i hil)
 have hs1 := hws i hil; have hs2 := hns i; have hEi := hE (gd w i); have hWi := hwl2 i hiw; have hLi := hnl i; clear d2 hE hws hwl2 hnl hns hc hc2
 have c1 := Jax (gd w i) 3 ⟨r1, r2⟩ (by omega)
 have p1 := Jai (c := gd w i) (n := 3) (by omega)
 have rd3 := Jgv (m := gd w i) (d := 3) (by omega) ⟨r1, r2⟩
 have rd6 := Jgv (m := gd w i) (d := 6) (by omega) ⟨r1, r2⟩
 have rd128 := Jgv (m := gd w i) (d := 128) (by omega) ⟨r1, r2⟩
 have c2 := Jax ((gd w i).tdiv 3) ups.length rd3 (by omega)
 have p2 := Jai (c := (gd w i).tdiv 3) (n := ups.length) (by omega)
 have c4 := Jax ((gd w i).tdiv 3) 2 rd3 (by omega)
 have p4 := Jai (c := (gd w i).tdiv 3) (n := 2) (by omega)
 have c5 := Jax ((gd w i).tdiv 128) 8 rd128 (by omega)
 generalize hWs : W (i + 1) = W' at *; generalize hLs : L (i + 1) = L' at *; generalize W i = Wi at *; generalize L i = Li at *
 have q1 : Wi.take Wi.length = Wi := L04
 have q2 : Li.take Li.length = Li := L04
 generalize WE (gd w i) = X at *; generalize hy3 : (gd w i).tdiv 3 = y3 at *; generalize hy6 : (gd w i).tdiv 6 = y6 at *; generalize hy128 : (gd w i).tdiv 128 = y128 at *; obtain ⟨u3, v3⟩ := rd3; obtain ⟨u6, v6⟩ := rd6; obtain ⟨u128, v128⟩ := rd128; generalize Jag (gd w i) 3 = p at *; generalize Jag y3 (ups.length : Int) = j at *; generalize Jag y3 2 = e at *; generalize Jag y128 8 = b at *; simp -implicitDefEqProofs (disch := omega) only [go_sem, e1, e2, e4, e5, e6, e7, m2, m4, m5, mW, mL]
 refine Jaa c1 ?_
 refine SA ?_
 refine JbX (λ E σ => E 8 = Str X /\ wiI (TPZ hops legs cks tfs offs KEY Ja7 ups) w Wi Li i E σ) (λ h3 => ?_) (λ h3 => ?_) ?_
 . rw [if_pos h3] at hEi
   have hjl : j.toNat < ups.length := by omega
   simp -implicitDefEqProofs (disch := omega) only [go_sem, e1, e2, e4, e5, e6, e7, m2, m4, m5, mW, mL, hy3]
   refine Jaa c2 ?_
   simp -implicitDefEqProofs (disch := omega) only [go_sem, wiI, e1, e2, e4, e5, e6, e7, m2, m4, m5, mW, mL, hy3, hEi, false_and]; try rfl
 . rw [if_neg h3] at hEi; simp -implicitDefEqProofs (disch := omega) only [go_sem, e1, e2, e4, e5, e6, e7, m2, m4, m5, mW, mL]
   refine Jab (λ h4 => ?_) (λ h4 => ?_)
   rotate_left
   . rw [if_neg (λ h => h4 h.1)] at hEi
     simp -implicitDefEqProofs (disch := omega) only [go_sem, wiI, e1, e2, e4, e5, e6, e7, m2, m4, m5, mW, mL, hEi, false_and]; try rfl
   simp -implicitDefEqProofs (disch := omega) only [go_sem, e1, e2, e4, e5, e6, e7, m2, m4, m5, mW, mL]
   refine Jab (λ h5 => ?_) (λ h5 => ?_)
   rotate_left
   . have hnil : legs = [] := L0T (by omega)
     rw [if_neg (λ h => h.2 hnil)] at hEi
     simp -implicitDefEqProofs (disch := omega) only [go_sem, wiI, e1, e2, e4, e5, e6, e7, m2, m4, m5, mW, mL, hEi, false_and]; try rfl
   have hne : legs ≠ [] := λ h => by rw [h] at h5; exact absurd h5 (by decide)
   rw [if_pos ⟨h4, hne⟩] at hEi
   have c3 := Jax y6 legs.length ⟨u6, v6⟩ (by omega)
   have p3 := Jai (c := y6) (n := legs.length) (by omega)
   generalize Jag y6 (legs.length : Int) = v at *
   have hvl : v.toNat < legs.length := by omega
   have g1 := hleg v.toNat hvl; have c6 := Jl2 (gd legs v.toNat) (1 + e)
   have hrv : recV (gd legs v.toNat) (1 + e) = .tup [Str (recF (gd legs v.toNat) (1 + e)), I 0] := if_pos ⟨g1, by omega⟩
   rw [hrv] at c6; clear hrv; generalize recF (gd legs v.toNat) (1 + e) = RF at *; generalize hlv : gd legs v.toNat = l at *; obtain ⟨lf, lt, lg, lk⟩ := l; simp -implicitDefEqProofs (disch := omega) only [go_sem, e1, e2, e4, e5, e6, e7, m2, m4, m5, mW, mL, hy3, hy6]
   refine Jaa c3 ?_
   refine SA ?_
   refine Jaa c4 ?_
   refine SA ?_
   refine Jaa c6 ?_
   simp -implicitDefEqProofs (disch := omega) only [go_sem, wiI, e1, e2, e4, e5, e6, e7, m2, m4, m5, mW, mL, hy3, hy6, hEi, hlv, false_and]; try rfl
 clear e1 e2 e4 e5 e6 e7 m2 m4 m5 mW mL E σ hEi
 rintro E σ ⟨e8, e1, e2, e4, e5, e6, e7, m2, m4, m5, mW, mL⟩
 refine SA ?_
 refine Jaa c5 ?_
 refine SA ?_
 refine Jab (λ h6 => ?_) (λ h6 => ?_)
 . rw [if_pos h6] at hs2; generalize hQ : Jo0 _ k = Q; refine SA ?_; rw [<- hQ]; clear hQ
   refine Jad (12 - (i + 1)) (by omega) ⟨i + 1, by omega, by omega, ?_⟩
   rw [hWs, hLs, hs1, hs2]; simp -implicitDefEqProofs (disch := omega) only [go_sem, wiI, e1, e2, e4, e5, e6, e7, e8, m2, m4, m5, mW, mL, q1, q2, hWi, L0b, L0e, L0r, false_and]; try simp
 . rw [if_neg h6, L0F] at hs2; refine SA ?_
   refine Jad (12 - (i + 1)) (by omega) ⟨i + 1, by omega, by omega, ?_⟩
   rw [hWs, hLs, hs1, hs2]; simp -implicitDefEqProofs (disch := omega) only [go_sem, wiI, e1, e2, e4, e5, e6, e7, e8, m2, m4, m5, mW, mL, q1, q2, hWi, L0b, L0e, L0r, false_and]; try simp
@[go_sem] theorem Jwg (l : List (Int × Int)) (a b : Int) : l.map HPP ++ [.agg [.v (.int .i64 a), .v (.int .i64 b)]] = (l ++ [(a, b)]).map HPP := by simp
@[go_sem] theorem Jwh (l : List Lg) (a b c d e f : Int) : l.map LGP ++ [.agg [.v (.int .i64 a), .v (.int .i64 b), .v (.int .i64 c), .v (.int .i64 d), .v (.int .i64 e), .v (.int .i64 f)]] = (l ++ [(⟨a, b, ⟨c, d⟩, ⟨e, f⟩⟩ : Lg)]).map LGP := by simp
@[go_sem] theorem Jwf (l : List Ck) (c : Ck) : l.map CKP ++ [CKP c] = (l ++ [c]).map CKP := by simp
@[go_sem] theorem JxN (l : List Tf) (c : Tf) : l.map TF ++ [TF c] = (l ++ [c]).map TF := by simp
theorem dnv (x : Value) : AV.dn (.v x) = false := AV.dn.eq_2 x
theorem JxW (l : List Int) : AV.dnL (l.map I) = false := Jbc I (λ x => dnv _) l
theorem JpN (c : Cr) : (CRP c).dn = false := by
 simp only [AV.dn, AV.dnL, JxW, Jbc QT (λ q => by simp only [AV.dn, AV.dnL, L14]) c.at_, L14]
theorem JtS (c : Ck) : (CKP c).dn = false := by
 simp only [AV.dn, AV.dnL, Jbc RDP (λ q => by simp only [AV.dn, AV.dnL, L14]) c.r, L14]
theorem JxY (c : Tf) : (TF c).dn = false := by
 simp only [AV.dn, AV.dnL, Jbc TP (λ q => by simp only [AV.dn, AV.dnL, L14]) c.l, L14]
structure Nm.ok (x : Nm) : Prop where
 hops : ∀ h ∈ x.hops, R64 h.1 /\ R64 h.2
 hopsL : x.hops.length <= 9223372036854775807
 legs : ∀ q ∈ x.legs, T3ok q
 legsL : x.legs.length <= 9223372036854775807
 crs : ∀ c ∈ x.crs, c.ok
 crsL : x.crs.length <= 9223372036854775807
 bases : ∀ n ∈ x.bases, R64 n
 basesL : x.bases.length <= 9223372036854775807
 rates : ∀ q ∈ x.rates, Q4ok q
 ratesL : x.rates.length <= 9223372036854775807
 offs : ∀ n ∈ x.offs, R64 n
 offsL : x.offs.length <= 9223372036854775807
 wit : ∀ n ∈ x.wit, R64 n
 witL : x.wit.length <= 9223372036854775807
theorem Jlu {x : Nm} (h : x.ok) (c : Nat) : (crsF x c).ok := by
 unfold crsF
 split
 . exact ⟨⟨by decide, by decide⟩, ⟨by decide, by decide⟩, λ r d => (by cases d), L17 _, λ q b => (by cases b), L17 _⟩
 . rename_i a
   exact h.crs _ (Jaj _ _ (L1p _ (L1h.2 a)))
theorem JqH {l : List Int} (h : ∀ n ∈ l, R64 n) (i : Nat) : R64 (numF l i) := by
 unfold numF
 split
 . exact ⟨by decide, by decide⟩
 . rename_i a
   exact h _ (Jaj _ _ (L1p _ (L1h.2 a)))
def ckN (x : Nm) (i : Nat) : List Ck := (List.range i).map λ c => (crsF x c).clk
def tfN (x : Nm) (i : Nat) : List Tf := (List.range i).map λ c => tfQ (numF x.bases c) (x.rates.take (c % 4))
def ofN (x : Nm) (i : Nat) : List Int := (List.range i).map (offF x)
def lgN (x : Nm) (a : List (Int × Int)) (i : Nat) : List Lg := (List.range i).map (legM x a)
theorem Jsh (x : Nm) (i : Nat) : ckN x (i + 1) = ckN x i ++ [(crsF x i).clk] := by simp [ckN, L1d]
theorem Jtq (x : Nm) (i : Nat) : tfN x (i + 1) = tfN x i ++ [tfQ (numF x.bases i) (x.rates.take (i % 4))] := by simp [tfN, L1d]
theorem JsT (x : Nm) (i : Nat) : ofN x (i + 1) = ofN x i ++ [offF x i] := by simp [ofN, L1d]
theorem JsJ (x : Nm) (a : List (Int × Int)) (i : Nat) : lgN x a (i + 1) = lgN x a i ++ [legM x a i] := by simp [lgN, L1d]
theorem JrL (i : Nat) : upsN (i + 1) = upsN i ++ [updS i] := by simp [upsN, L1d]
theorem JuG (x : Nm) (i : Nat) : (ckN x i).length = i := by simp [ckN]
theorem JvY (x : Nm) (i : Nat) : (tfN x i).length = i := by simp [tfN]
theorem Jvv (x : Nm) (i : Nat) : (ofN x i).length = i := by simp [ofN]
theorem Jqu (x : Nm) (a : List (Int × Int)) (i : Nat) : (lgN x a i).length = i := by simp [lgN]
abbrev mdT (a : AV) (G : List Lg) (C : List Ck) (T : List Tf) (O : List Int) (U : List ByteArray) : AV :=
 .agg [a, .own 14680114 6 0 G.length, .own 14680115 2 0 C.length, .own 14680116 2 0 T.length, .own 14680117 1 0 O.length, Str (keyS 0), I 0, I 0, .v (.string ByteArray.empty), .v (.string ByteArray.empty), .v (.slice none 0 0), Str Ja7, .own 14680118 1 0 U.length]
abbrev zT : AV := .agg [.v (.slice none 0 0), .v (.slice none 0 0), .v (.slice none 0 0), .v (.slice none 0 0), .v (.slice none 0 0), .v (.string ByteArray.empty), I 0, I 0, .v (.string ByteArray.empty), .v (.string ByteArray.empty), .v (.slice none 0 0), .v (.string ByteArray.empty), .v (.slice none 0 0)]
def mdI (x : Nm) (b : AV) (G : List Lg) (C : List Ck) (T : List Tf) (O : List Int) (U : List ByteArray) (E : Env) (a : Jac) : Prop :=
 E 1 = .ptr 14680080 7 0 0 /\ E 2 = .ptr 14680096 13 0 0 /\ E 3 = .ptr 14680112 13 0 0 /\ a 14680080 = some ⟨28, 7, [NMP x]⟩ /\ a 14680096 = some ⟨41, 13, [zT]⟩ /\
 a 14680112 = some ⟨41, 13, [mdT b G C T O U]⟩ /\ a 14680114 = some ⟨62, 6, G.map LGP⟩ /\ a 14680115 = some ⟨93, 2, C.map CKP⟩ /\ a 14680116 = some ⟨100, 2, T.map TF⟩ /\
 a 14680117 = some ⟨3, 1, O.map I⟩ /\ a 14680118 = some ⟨9, 1, U.map Str⟩
set_option maxHeartbeats 16000000 in
theorem JlO (x : Nm) (hx : x.ok) : Ev prog 6 [NMP x] (TPP (Jca x)) := by
 have hfin : TPP (Jca x) = .agg [HPS (JaA x.hops), LGS (lgN x (JaA x.hops) ((JaA x.hops).length - 1)), CKS (ckN x 8), TFS (tfN x 8), SL (ofN x 8), Str (keyS 0), I (Jca x).part.h.c, I (Jca x).part.h.n, Str (Jca x).part.h.r, Str (Jca x).part.h.s, ITS (Jca x).part.l, Str Ja7, SLs (upsN ((JdM x.hops).2 + 2).toNat)] := rfl
 have hHl := JdL x.hops; have hHi := Jd2 x.hops; have hLi := JmR x.hops; have hlen1 := Jqu x (JaA x.hops) ((JaA x.hops).length - 1)
 have cw := JoO (JaA x.hops) (lgN x (JaA x.hops) ((JaA x.hops).length - 1)) (ckN x 8) (tfN x 8) (ofN x 8) Ja7 ((JdM x.hops).2 + 2).toNat x.wit hx.wit hx.witL (by omega) (by omega) (by omega) (λ i hi => by
  rw [hlen1] at hi
  have : gd (lgN x (JaA x.hops) ((JaA x.hops).length - 1)) i = legM x (JaA x.hops) i := JmY x (JaA x.hops) hi
  rw [this]; exact Jqr x (by omega))
 have hwp : witP Ja7 (upsN ((JdM x.hops).2 + 2).toNat) (lgN x (JaA x.hops) ((JaA x.hops).length - 1)) x.wit = (Jca x).part := rfl
 rw [hwp] at cw; rw [hfin]; clear hwp hfin; generalize (Jca x).part = PT at *
 obtain ⟨⟨pc, pn, pr, ps⟩, pl⟩ := PT
 simp only at *
 have k1 := JmQ; rw [<- Jqo] at k1
 refine EW [2, 17, 18, 37] func6 ?_
 refine SD ?_
 refine Jaa k1 ?_
 refine SD ?_
 refine JbD 14680112 14680113 0 0 104 2 (k := ⟨41, 13, [.agg [.v (.slice none 0 0), .v (.slice none 0 0), .v (.slice none 0 0), .v (.slice none 0 0), .v (.slice none 0 0), Str (keyS 0), I 0, I 0, .v (.string ByteArray.empty), .v (.string ByteArray.empty), .v (.slice none 0 0), Str Ja7, .v (.slice none 0 0)]]⟩) (el := .agg [.v (.slice none 0 0), .v (.slice none 0 0), .v (.slice none 0 0), .v (.slice none 0 0), .v (.slice none 0 0), Str (keyS 0), I 0, I 0, .v (.string ByteArray.empty), .v (.string ByteArray.empty), .v (.slice none 0 0), Str Ja7, .v (.slice none 0 0)]) (by simp -implicitDefEqProofs (disch := omega) only [go_sem, false_and]; try rfl) (by decide) rfl rfl (by simp) SC rfl ?_
 refine JbD 14680112 14680114 0 1 62 6 (k := ⟨41, 13, [.agg [.own 14680113 2 0 0, .v (.slice none 0 0), .v (.slice none 0 0), .v (.slice none 0 0), .v (.slice none 0 0), Str (keyS 0), I 0, I 0, .v (.string ByteArray.empty), .v (.string ByteArray.empty), .v (.slice none 0 0), Str Ja7, .v (.slice none 0 0)]]⟩) (el := .agg [.own 14680113 2 0 0, .v (.slice none 0 0), .v (.slice none 0 0), .v (.slice none 0 0), .v (.slice none 0 0), Str (keyS 0), I 0, I 0, .v (.string ByteArray.empty), .v (.string ByteArray.empty), .v (.slice none 0 0), Str Ja7, .v (.slice none 0 0)]) (by simp -implicitDefEqProofs (disch := omega) only [go_sem, false_and]; try rfl) (by decide) rfl rfl (by simp) SC rfl ?_
 refine JbD 14680112 14680115 0 2 93 2 (k := ⟨41, 13, [.agg [.own 14680113 2 0 0, .own 14680114 6 0 0, .v (.slice none 0 0), .v (.slice none 0 0), .v (.slice none 0 0), Str (keyS 0), I 0, I 0, .v (.string ByteArray.empty), .v (.string ByteArray.empty), .v (.slice none 0 0), Str Ja7, .v (.slice none 0 0)]]⟩) (el := .agg [.own 14680113 2 0 0, .own 14680114 6 0 0, .v (.slice none 0 0), .v (.slice none 0 0), .v (.slice none 0 0), Str (keyS 0), I 0, I 0, .v (.string ByteArray.empty), .v (.string ByteArray.empty), .v (.slice none 0 0), Str Ja7, .v (.slice none 0 0)]) (by simp -implicitDefEqProofs (disch := omega) only [go_sem, false_and]; try rfl) (by decide) rfl rfl (by simp) SC rfl ?_
 refine JbD 14680112 14680116 0 3 100 2 (k := ⟨41, 13, [.agg [.own 14680113 2 0 0, .own 14680114 6 0 0, .own 14680115 2 0 0, .v (.slice none 0 0), .v (.slice none 0 0), Str (keyS 0), I 0, I 0, .v (.string ByteArray.empty), .v (.string ByteArray.empty), .v (.slice none 0 0), Str Ja7, .v (.slice none 0 0)]]⟩) (el := .agg [.own 14680113 2 0 0, .own 14680114 6 0 0, .own 14680115 2 0 0, .v (.slice none 0 0), .v (.slice none 0 0), Str (keyS 0), I 0, I 0, .v (.string ByteArray.empty), .v (.string ByteArray.empty), .v (.slice none 0 0), Str Ja7, .v (.slice none 0 0)]) (by simp -implicitDefEqProofs (disch := omega) only [go_sem, false_and]; try rfl) (by decide) rfl rfl (by simp) SC rfl ?_
 refine JbD 14680112 14680117 0 4 3 1 (k := ⟨41, 13, [.agg [.own 14680113 2 0 0, .own 14680114 6 0 0, .own 14680115 2 0 0, .own 14680116 2 0 0, .v (.slice none 0 0), Str (keyS 0), I 0, I 0, .v (.string ByteArray.empty), .v (.string ByteArray.empty), .v (.slice none 0 0), Str Ja7, .v (.slice none 0 0)]]⟩) (el := .agg [.own 14680113 2 0 0, .own 14680114 6 0 0, .own 14680115 2 0 0, .own 14680116 2 0 0, .v (.slice none 0 0), Str (keyS 0), I 0, I 0, .v (.string ByteArray.empty), .v (.string ByteArray.empty), .v (.slice none 0 0), Str Ja7, .v (.slice none 0 0)]) (by simp -implicitDefEqProofs (disch := omega) only [go_sem, false_and]; try rfl) (by decide) rfl rfl (by simp) SC rfl ?_
 refine JbD 14680112 14680118 0 12 9 1 (k := ⟨41, 13, [.agg [.own 14680113 2 0 0, .own 14680114 6 0 0, .own 14680115 2 0 0, .own 14680116 2 0 0, .own 14680117 1 0 0, Str (keyS 0), I 0, I 0, .v (.string ByteArray.empty), .v (.string ByteArray.empty), .v (.slice none 0 0), Str Ja7, .v (.slice none 0 0)]]⟩) (el := .agg [.own 14680113 2 0 0, .own 14680114 6 0 0, .own 14680115 2 0 0, .own 14680116 2 0 0, .own 14680117 1 0 0, Str (keyS 0), I 0, I 0, .v (.string ByteArray.empty), .v (.string ByteArray.empty), .v (.slice none 0 0), Str Ja7, .v (.slice none 0 0)]) (by simp -implicitDefEqProofs (disch := omega) only [go_sem, false_and]; try rfl) (by decide) rfl rfl (by simp) SC rfl ?_
 refine Jfd Plain.mono ?_
 refine SD ?_
 -- clocks, tariffs, offsets
 refine Jaf (λ k E σ => ∃ i : Nat, i + k = 8 /\ E 4 = I i /\ mdI x (.own 14680113 2 0 0) [] (ckN x i) (tfN x i) (ofN x i) [] E σ /\ σ 14680113 = some ⟨104, 2, []⟩) 8 ⟨0, by omega, ?_⟩ ?_
 . simp -implicitDefEqProofs (disch := omega) only [go_sem, mdI, ckN, tfN, ofN, false_and, and_self]
   try ((repeat' apply And.intro) <;> rfl)
 rintro k E σ ⟨i, hk, e4, ⟨e1, e2, e3, m1, m2, m3, mg, mc, mt, mo, mu⟩, mh⟩
 simp -implicitDefEqProofs (disch := omega) only [go_sem, e4, e1, e2, e3, m1, m2, m3, mg, mc, mt, mo, mu, mh]
 refine Jab (λ hc => ?_) (λ hc => ?_)
 . have hck := JuG x i; have htf := JvY x i; have hof := Jvv x i
   have b1 := Jg2 x i hx.crsL (by omega)
   have b2 := JnQ (crsF x i) (Jlu hx i)
   have b3 := JkC x.bases i hx.basesL (by omega)
   have r3 := JqH hx.bases i
   have ht4 : (i : Int).tmod 4 = ((i % 4 : Nat) : Int) := by rw [L0Z (by omega)]; omega
   have hmin : (min (x.rates.length : Int) ((i % 4 : Nat) : Int)).toNat = min x.rates.length (i % 4) := by omega
   have htk : x.rates.take (min x.rates.length (i % 4)) = x.rates.take (i % 4) := by
    by_cases h : i % 4 <= x.rates.length
    . rw [Nat.min_eq_right h]
    . rw [L0N (by omega), L04, L03 (by omega)]
   have b4 := JrC (numF x.bases i) (x.rates.take (i % 4)) r3 (λ q hq => hx.rates q (L0J hq)) (by rw [L01]; have := hx.ratesL; omega)
   have b5 := JkC x.offs i hx.offsL (by omega)
   have r5 := JqH hx.offs i
   have b6 := Jax (numF x.offs i) 100801 r5 (by omega)
   have p6 := Jai (c := numF x.offs i) (n := 100801) (by omega)
   have s1 := Jsh x i; have s2 := Jtq x i; have s3 := JsT x i
   have hoff : offF x i = Jag (numF x.offs i) 100801 - 50400 := rfl
   rw [hoff] at s3; generalize (crsF x i).clk = K at *; generalize tfQ (numF x.bases i) (x.rates.take (i % 4)) = TQ at *; generalize Jag (numF x.offs i) 100801 = po at *; generalize hC' : ckN x (i + 1) = C' at *; generalize hT' : tfN x (i + 1) = T' at *; generalize hO' : ofN x (i + 1) = O' at *; generalize ckN x i = C at *; generalize tfN x i = T at *; generalize ofN x i = O at *
   have q1 : C.take i = C := L03 (by omega)
   have q2 : T.take i = T := L03 (by omega)
   have q3 : O.take i = O := L03 (by omega)
   obtain ⟨kd, kr⟩ := K; obtain ⟨tl, tb⟩ := TQ; simp -implicitDefEqProofs (disch := omega) only [go_sem, e4, e1, e2, e3, m1, m2, m3, mg, mc, mt, mo, mu, mh, false_and, and_self]
   refine Jaa b1 ?_ (h4 := by first | exact .inl rfl | exact .inr (JpN _))
   simp -implicitDefEqProofs (disch := omega) only [go_sem, e4, e1, e2, e3, m1, m2, m3, mg, mc, mt, mo, mu, mh, false_and, and_self]
   refine Jaa b2 ?_ (h4 := by first | exact .inl rfl | exact .inr (JtS _))
   simp -implicitDefEqProofs (disch := omega) only [go_sem, e4, e1, e2, e3, m1, m2, m3, mg, mc, mt, mo, mu, mh, hck, htf, hof, q1, q2, q3, false_and, and_self]
   refine Jaa b3 ?_
   simp -implicitDefEqProofs (disch := omega) only [go_sem, e4, e1, e2, e3, m1, m2, m3, mg, mc, mt, mo, mu, mh, hck, htf, hof, q1, q2, q3, ht4, hmin, L11, htk, false_and, and_self]
   refine Jaa b4 ?_ (h4 := by first | exact .inl rfl | exact .inr (JxY _))
   simp -implicitDefEqProofs (disch := omega) only [go_sem, e4, e1, e2, e3, m1, m2, m3, mg, mc, mt, mo, mu, mh, hck, htf, hof, q1, q2, q3, ht4, hmin, L11, htk, false_and, and_self]
   refine Jaa b5 ?_
   simp -implicitDefEqProofs (disch := omega) only [go_sem, e4, e1, e2, e3, m1, m2, m3, mg, mc, mt, mo, mu, mh, hck, htf, hof, q1, q2, q3, ht4, hmin, L11, htk, false_and, and_self]
   refine Jaa b6 ?_
   simp -implicitDefEqProofs (disch := omega) only [go_sem, e4, e1, e2, e3, m1, m2, m3, mg, mc, mt, mo, mu, mh, hck, htf, hof, q1, q2, q3, ht4, hmin, L11, htk, false_and, and_self]
   refine Jad (8 - (i + 1)) (by omega) ⟨i + 1, by omega, ?_⟩
   rw [hC', hT', hO', s1, s2, s3]; simp -implicitDefEqProofs (disch := omega) only [go_sem, mdI, e4, e1, e2, e3, m1, m2, m3, mg, mc, mt, mo, mu, mh, hck, htf, hof, q1, q2, q3, L0b, L0e, L0r, false_and, and_self]
   try simp [hck, htf, hof]
 obtain rfl : i = 8 := by omega
 generalize hC8 : ckN x 8 = C8 at *; generalize hT8 : tfN x 8 = T8 at *; generalize hO8 : ofN x 8 = O8 at *; clear hC8 hT8 hO8 hc; simp -implicitDefEqProofs (disch := omega) only [go_sem, e4, e1, e2, e3, m1, m2, m3, mg, mc, mt, mo, mu, mh, false_and, and_self]
 -- hops
 have hn0 : hopN x.hops 0 = [] := rfl
 refine Jkt 2 (λ E σ => E 5 = .ptr 14680144 2 0 0 /\ mdI x (.own 14680113 2 0 (min x.hops.length 6)) [] C8 T8 O8 [] E σ /\ σ 14680113 = some ⟨104, 2, (hopN x.hops (min x.hops.length 6)).map HPP⟩ /\ σ 14680144 = some ⟨104, 2, [HPP (gd (hopN x.hops (min x.hops.length 6)) (min x.hops.length 6 - 1))]⟩) ?_ ?_
 . refine Jaf (λ k E σ => ∃ i : Nat, i + k = 6 /\ i <= x.hops.length /\ E 6 = I i /\ E 5 = .ptr 14680144 2 0 0 /\ mdI x (.own 14680113 2 0 i) [] C8 T8 O8 [] E σ /\ σ 14680113 = some ⟨104, 2, (hopN x.hops i).map HPP⟩ /\ σ 14680144 = some ⟨104, 2, [HPP (gd (hopN x.hops i) (i - 1))]⟩) 6 ⟨0, by omega, by omega, ?_⟩ ?_
   . simp -implicitDefEqProofs (disch := omega) only [go_sem, mdI, hn0, e1, e2, e3, m1, m2, m3, mg, mc, mt, mo, mu, mh, false_and, and_self]
     try ((repeat' apply And.intro) <;> rfl)
   clear e1 e2 e3 e4 m1 m2 m3 mg mc mt mo mu mh E σ
   rintro k E σ ⟨i, hk, hil, e6, e5, ⟨e1, e2, e3, m1, m2, m3, mg, mc, mt, mo, mu⟩, mh, m5⟩
   simp -implicitDefEqProofs (disch := omega) only [go_sem, e5, e6, e1, e2, e3, m1, m2, m3, mg, mc, mt, mo, mu, mh, m5]
   refine Jab (λ hc => ?_) (λ hc => ?_)
   rotate_left
   . obtain rfl : i = min x.hops.length 6 := by omega
     simp -implicitDefEqProofs (disch := omega) only [go_sem, mdI, e5, e6, e1, e2, e3, m1, m2, m3, mg, mc, mt, mo, mu, mh, m5, false_and, and_self]; try rfl
   simp -implicitDefEqProofs (disch := omega) only [go_sem, e5, e6, e1, e2, e3, m1, m2, m3, mg, mc, mt, mo, mu, mh, m5]
   refine Jab (λ hc2 => ?_) (λ hc2 => ?_)
   rotate_left
   . obtain rfl : i = min x.hops.length 6 := by omega
     simp -implicitDefEqProofs (disch := omega) only [go_sem, mdI, e5, e6, e1, e2, e3, m1, m2, m3, mg, mc, mt, mo, mu, mh, m5, false_and, and_self]; try rfl
   have hil2 : i < x.hops.length := by omega
   have hnl := Ja2 x.hops i
   obtain ⟨r1, r2⟩ := hx.hops _ (Jaj x.hops i hil2)
   have c1 := Jax (gd x.hops i).1 8 r1 (by omega)
   have c2 := Jax (gd x.hops i).2 4 r2 (by omega)
   have c3 := Jax (gd x.hops i).1 7 r1 (by omega)
   have p1 := Jai (c := (gd x.hops i).1) (n := 8) (by omega)
   have p2 := Jai (c := (gd x.hops i).2) (n := 4) (by omega)
   have p3 := Jai (c := (gd x.hops i).1) (n := 7) (by omega)
   have hla : (0 <= (gd (hopN x.hops i) (i - 1)).1 /\ (gd (hopN x.hops i) (i - 1)).1 <= 7) /\ 0 <= (gd (hopN x.hops i) (i - 1)).2 /\ (gd (hopN x.hops i) (i - 1)).2 <= 20 := by
    by_cases h0 : i = 0
    . subst h0; rw [hn0, JtX]; decide
    . exact Jhb x.hops i _ (Jaj _ _ (by rw [hnl]; omega))
   have hs : hopN x.hops (i + 1) = hopN x.hops i ++ [hopF (gd x.hops i) (gd (hopN x.hops i) (i - 1)) i] := rfl
   have hF : hopF (gd x.hops i) (gd (hopN x.hops i) (i - 1)) i = (if i = 0 then Jag (gd x.hops i).1 8 else ((gd (hopN x.hops i) (i - 1)).1 + 1 + Jag (gd x.hops i).1 7).tmod 8, min ((gd (hopN x.hops i) (i - 1)).2 + Jag (gd x.hops i).2 4) 20) := rfl
   have hg : gd (hopN x.hops (i + 1)) (i + 1 - 1) = hopF (gd x.hops i) (gd (hopN x.hops i) (i - 1)) i := by
    rw [hs, L15, Jbl _ _ _ (by omega), hnl, L1v, JaL]
   generalize hopF (gd x.hops i) (gd (hopN x.hops i) (i - 1)) i = h at *; generalize hH' : hopN x.hops (i + 1) = H' at *; generalize gd (hopN x.hops i) (i - 1) = la at *; generalize hopN x.hops i = H at *; obtain ⟨la1, la2⟩ := la; obtain ⟨h1, h2⟩ := h; simp only [Prod.mk.injEq] at hF hla; obtain ⟨hF1, hF2⟩ := hF; generalize Jag (gd x.hops i).1 8 = w1 at *; generalize Jag (gd x.hops i).2 4 = w2 at *; generalize Jag (gd x.hops i).1 7 = w3 at *
   have qt : H.take i = H := L03 (by omega)
   simp -implicitDefEqProofs (disch := omega) only [go_sem, e5, e6, e1, e2, e3, m1, m2, m3, mg, mc, mt, mo, mu, mh, m5, false_and, and_self]
   refine Jaa c1 ?_
   simp -implicitDefEqProofs (disch := omega) only [go_sem, e5, e6, e1, e2, e3, m1, m2, m3, mg, mc, mt, mo, mu, mh, m5, false_and, and_self]
   refine Jaa c2 ?_
   simp -implicitDefEqProofs (disch := omega) only [go_sem, e5, e6, e1, e2, e3, m1, m2, m3, mg, mc, mt, mo, mu, mh, m5, false_and, and_self]
   refine JbX (λ E σ => E 6 = I i /\ E 5 = .ptr 14680144 2 0 0 /\ E 7 = .ptr 14680176 2 0 0 /\ mdI x (.own 14680113 2 0 i) [] C8 T8 O8 [] E σ /\ σ 14680113 = some ⟨104, 2, H.map HPP⟩ /\ σ 14680144 = some ⟨104, 2, [HPP (la1, la2)]⟩ /\ σ 14680176 = some ⟨104, 2, [HPP (h1, h2)]⟩) (λ h0 => ?_) (λ h0 => ?_) ?_
   . rw [if_neg (by omega)] at hF1
     simp -implicitDefEqProofs (disch := omega) only [go_sem, e5, e6, e1, e2, e3, m1, m2, m3, mg, mc, mt, mo, mu, mh, m5, false_and, and_self]
     refine Jaa c3 ?_
     simp -implicitDefEqProofs (disch := omega) only [go_sem, mdI, e5, e6, e1, e2, e3, m1, m2, m3, mg, mc, mt, mo, mu, mh, m5, hF1, hF2, false_and, and_self]; try rfl
   . rw [if_pos (by omega)] at hF1
     simp -implicitDefEqProofs (disch := omega) only [go_sem, mdI, e5, e6, e1, e2, e3, m1, m2, m3, mg, mc, mt, mo, mu, mh, m5, hF1, hF2, false_and, and_self]; try rfl
   clear e5 e6 e1 e2 e3 m1 m2 m3 mg mc mt mo mu mh m5 E σ
   rintro E σ ⟨e6, e5, e7, ⟨e1, e2, e3, m1, m2, m3, mg, mc, mt, mo, mu⟩, mh, m5, m7⟩
   simp -implicitDefEqProofs (disch := omega) only [go_sem, e5, e6, e7, e1, e2, e3, m1, m2, m3, mg, mc, mt, mo, mu, mh, m5, m7, hnl, qt, false_and, and_self]
   refine Jad (6 - (i + 1)) (by omega) ⟨i + 1, by omega, by omega, ?_⟩
   rw [hH', hg, hs]; simp -implicitDefEqProofs (disch := omega) only [go_sem, mdI, e5, e6, e7, e1, e2, e3, m1, m2, m3, mg, mc, mt, mo, mu, mh, m5, m7, hnl, qt, L0b, L0e, L0r, false_and, and_self]; try simp
 clear e1 e2 e3 e4 m1 m2 m3 mg mc mt mo mu mh E σ
 have hHm : (hopN x.hops (min x.hops.length 6)).length = min x.hops.length 6 := Ja2 _ _
 have hHF : JaA x.hops = if x.hops = [] then [(0, 0)] else hopN x.hops (min x.hops.length 6) := rfl
 have hLH : gd (hopN x.hops (min x.hops.length 6)) (min x.hops.length 6 - 1) = JdM x.hops := by
  unfold JdM
  by_cases h0 : x.hops = []
  . rw [hHF, if_pos h0, h0]; rfl
  . rw [hHF, if_neg h0, hHm]
 rw [hLH]; clear hLH
 rintro E σ ⟨e5, ⟨e1, e2, e3, m1, m2, m3, mg, mc, mt, mo, mu⟩, mh, m5⟩
 simp -implicitDefEqProofs (disch := omega) only [go_sem, e5, e1, e2, e3, m1, m2, m3, mg, mc, mt, mo, mu, mh, m5]
 have qHm : (hopN x.hops (min x.hops.length 6)).take (min x.hops.length 6) = hopN x.hops (min x.hops.length 6) := L03 (by omega)
 refine Jap Plain.mono [14680113] ?_
 simp -implicitDefEqProofs (disch := omega) only [go_sem, e5, e1, e2, e3, m1, m2, m3, mg, mc, mt, mo, mu, mh, m5, qHm, hHm, L0c, false_and, and_self]
 refine JbX (λ E σ => E 5 = .ptr 14680144 2 0 0 /\ mdI x (HPS (JaA x.hops)) [] C8 T8 O8 [] E σ /\ σ 14680144 = some ⟨104, 2, [HPP (JdM x.hops)]⟩) (λ h0 => ?_) (λ h0 => ?_) ?_
 . have hnil : x.hops = [] := L0T (by omega)
   rw [if_pos hnil] at hHF; rw [hHF]; simp -implicitDefEqProofs (disch := omega) only [go_sem, e5, e1, e2, e3, m1, m2, m3, mg, mc, mt, mo, mu, mh, m5, qHm, hHm, L0c, false_and, and_self]
   refine JlC [14681936] ?_
   refine Jfd Plain.mono ?_
   simp -implicitDefEqProofs (disch := omega) only [go_sem, mdI, e5, e1, e2, e3, m1, m2, m3, mg, mc, mt, mo, mu, mh, m5, qHm, hHm, L0c, false_and, and_self]; try rfl
 . have hnil : x.hops ≠ [] := λ h => by rw [h] at h0; exact h0 rfl
   rw [if_neg hnil] at hHF; rw [hHF]; simp -implicitDefEqProofs (disch := omega) only [go_sem, mdI, e5, e1, e2, e3, m1, m2, m3, mg, mc, mt, mo, mu, mh, m5, qHm, hHm, L0c, false_and, and_self]; try rfl
 clear hHF hHm qHm e5 e1 e2 e3 m1 m2 m3 mg mc mt mo mu mh m5 E σ; generalize JaA x.hops = HS at *
 rintro E σ ⟨e5, ⟨e1, e2, e3, m1, m2, m3, mg, mc, mt, mo, mu⟩, m5⟩
 simp -implicitDefEqProofs (disch := omega) only [go_sem, e5, e1, e2, e3, m1, m2, m3, mg, mc, mt, mo, mu, m5]
 -- updates
 have hu0 : upsN 0 = [] := rfl
 obtain ⟨n, hn⟩ : ∃ n : Nat, ((JdM x.hops).2 + 2).toNat = n := ⟨_, rfl⟩
 rw [hn] at cw ⊢; generalize JdM x.hops = la at *; obtain ⟨la1, la2⟩ := la
 simp only at *
 refine Jaf (λ k E σ => ∃ i : Nat, i + k = n /\ E 8 = I i /\ E 5 = .ptr 14680144 2 0 0 /\ mdI x (HPS HS) [] C8 T8 O8 (upsN i) E σ /\ σ 14680144 = some ⟨104, 2, [HPP (la1, la2)]⟩) n ⟨0, by omega, ?_⟩ ?_
 . simp -implicitDefEqProofs (disch := omega) only [go_sem, mdI, hu0, e5, e1, e2, e3, m1, m2, m3, mg, mc, mt, mo, mu, m5, false_and, and_self]
   try ((repeat' apply And.intro) <;> rfl)
 clear e5 e1 e2 e3 m1 m2 m3 mg mc mt mo mu m5 E σ
 rintro k E σ ⟨i, hk, e8, e5, ⟨e1, e2, e3, m1, m2, m3, mg, mc, mt, mo, mu⟩, m5⟩
 simp -implicitDefEqProofs (disch := omega) only [go_sem, e5, e8, e1, e2, e3, m1, m2, m3, mg, mc, mt, mo, mu, m5]
 refine Jab (λ hc => ?_) (λ hc => ?_)
 . have b1 := JrJ i (by omega)
   have s1 := JrL i; have ul := Jdw i; generalize updS i = US at *; generalize hU' : upsN (i + 1) = U' at *; generalize upsN i = U at *
   have qt : U.take i = U := L03 (by omega)
   simp -implicitDefEqProofs (disch := omega) only [go_sem, e5, e8, e1, e2, e3, m1, m2, m3, mg, mc, mt, mo, mu, m5, false_and, and_self]
   refine Jaa b1 ?_
   simp -implicitDefEqProofs (disch := omega) only [go_sem, e5, e8, e1, e2, e3, m1, m2, m3, mg, mc, mt, mo, mu, m5, ul, qt, false_and, and_self]
   refine Jad (n - (i + 1)) (by omega) ⟨i + 1, by omega, ?_⟩
   rw [hU', s1]; simp -implicitDefEqProofs (disch := omega) only [go_sem, mdI, e5, e8, e1, e2, e3, m1, m2, m3, mg, mc, mt, mo, mu, m5, ul, qt, L0b, L0e, L0r, false_and, and_self]
   try simp [ul]
 obtain rfl : i = n := by omega
 have ul := Jdw i; generalize upsN i = U at *
 have qtu : U.take i = U := L03 (by omega)
 simp -implicitDefEqProofs (disch := omega) only [go_sem, e5, e8, e1, e2, e3, m1, m2, m3, mg, mc, mt, mo, mu, m5]
 -- legs
 have hg0 : lgN x HS 0 = [] := rfl
 refine Jaf (λ k E σ => ∃ i : Nat, i + k = HS.length - 1 /\ E 9 = I i /\ mdI x (HPS HS) (lgN x HS i) C8 T8 O8 U E σ) (HS.length - 1) ⟨0, by omega, ?_⟩ ?_
 . simp -implicitDefEqProofs (disch := omega) only [go_sem, mdI, hg0, e1, e2, e3, m1, m2, m3, mg, mc, mt, mo, mu, false_and, and_self]
   try ((repeat' apply And.intro) <;> rfl)
 clear e5 e8 e1 e2 e3 m1 m2 m3 mg mc mt mo mu m5 E σ hk hc k
 rintro k E σ ⟨v, hk, e9, e1, e2, e3, m1, m2, m3, mg, mc, mt, mo, mu⟩
 have hvv : ((v : Int) + 1).toNat = v + 1 := by omega
 simp -implicitDefEqProofs (disch := omega) only [go_sem, e9, e1, e2, e3, m1, m2, m3, mg, mc, mt, mo, mu]
 refine Jab (λ hc => ?_) (λ hc => ?_)
 rotate_left
 . obtain rfl : v = HS.length - 1 := by omega
   generalize lgN x HS (HS.length - 1) = G at *
   have qg : G.take (HS.length - 1) = G := L03 (by omega)
   have qc : C8.take C8.length = C8 := L04
   have qt : T8.take T8.length = T8 := L04
   have qo : O8.take O8.length = O8 := L04
   simp -implicitDefEqProofs (disch := omega) only [go_sem, e9, e1, e2, e3, m1, m2, m3, mg, mc, mt, mo, mu]
   refine Jap Plain.mono [14680114, 14680115, 14680116, 14680117, 14680118] ?_
   simp -implicitDefEqProofs (disch := omega) only [go_sem, e9, e1, e2, e3, m1, m2, m3, mg, mc, mt, mo, mu, hlen1, ul, qg, qc, qt, qo, qtu, L0c, false_and, and_self]
   refine Jaa cw ?_
   simp -implicitDefEqProofs (disch := omega) only [go_sem, e9, e1, e2, e3, m1, m2, m3, mg, mc, mt, mo, mu, hlen1, ul, qg, qc, qt, qo, qtu, L0c, false_and, and_self, results6]; try rfl
 have hv1 : v < HS.length := by omega
 have hv2 : v + 1 < HS.length := by omega
 have hgl := Jqu x HS v; have s1 := JsJ x HS v
 have hlm : legM x HS v = ⟨(gd HS v).1, (gd HS (v + 1)).1, (crsF x (gd HS v).1.toNat).cnt (Jag (legY x v).1 2000) (Jag (legY x v).1 2000 + Jag (legY x v).2.1 900), if Jag (legY x v).2.2 4 = 3 then ⟨((crsF x (gd HS (v + 1)).1.toNat).cnt (Jag (legY x v).1 2000) (Jag (legY x v).1 2000 + Jag (legY x v).2.1 900)).b, ((crsF x (gd HS (v + 1)).1.toNat).cnt (Jag (legY x v).1 2000) (Jag (legY x v).1 2000 + Jag (legY x v).2.1 900)).e + Jag (legY x v).2.2 400⟩ else (crsF x (gd HS (v + 1)).1.toNat).cnt (Jag (legY x v).1 2000) (Jag (legY x v).1 2000 + Jag (legY x v).2.1 900)⟩ := rfl
 have hY : legY x v = if x.legs = [] then (100 * (v : Int), 60, 0) else gd x.legs (v % x.legs.length) := rfl
 have hi1 := hHi _ (Jaj HS v hv1); have hi2 := hHi _ (Jaj HS (v + 1) hv2)
 have hYr : T3ok (legY x v) := by
  rw [hY]
  split
  . refine ⟨⟨?_, ?_⟩, ⟨?_, ?_⟩, ⟨?_, ?_⟩⟩ <;> simp only <;> omega
  . rename_i hne
    exact hx.legs _ (Jaj _ _ (L1p _ (L1h.2 hne)))
 obtain ⟨y1, y2, y3⟩ := hYr
 have a1 := Jai (c := (legY x v).1) (n := 2000) (by omega)
 have a2 := Jai (c := (legY x v).2.1) (n := 900) (by omega)
 have a3 := Jai (c := (legY x v).2.2) (n := 400) (by omega)
 have d1 := Jax (legY x v).1 2000 y1 (by omega)
 have d2 := Jax (legY x v).2.1 900 y2 (by omega)
 have d3 := Jax (legY x v).2.2 400 y3 (by omega)
 have d4 := Jax (legY x v).2.2 4 y3 (by omega)
 have n1 : (((gd HS v).1.toNat : Nat) : Int) = (gd HS v).1 := by omega
 have n2 : (((gd HS (v + 1)).1.toNat : Nat) : Int) = (gd HS (v + 1)).1 := by omega
 have f1 := Jg2 x (gd HS v).1.toNat hx.crsL (by omega)
 have f2 := Jg2 x (gd HS (v + 1)).1.toNat hx.crsL (by omega)
 rw [n1] at f1; rw [n2] at f2
 have g1 := JhY (crsF x (gd HS v).1.toNat) (Jag (legY x v).1 2000) (Jag (legY x v).1 2000 + Jag (legY x v).2.1 900) (Jlu hx _) (by omega) (by omega)
 have g2 := JhY (crsF x (gd HS (v + 1)).1.toNat) (Jag (legY x v).1 2000) (Jag (legY x v).1 2000 + Jag (legY x v).2.1 900) (Jlu hx _) (by omega) (by omega)
 have g3 : ((crsF x (gd HS (v + 1)).1.toNat).cnt (Jag (legY x v).1 2000) (Jag (legY x v).1 2000 + Jag (legY x v).2.1 900)).e <= 9000 := by
  have hd := Jai (c := (crsF x (gd HS (v + 1)).1.toNat).d) (n := 101) (by omega)
  have := (Jee (d := Jag (crsF x (gd HS (v + 1)).1.toNat).d 101) (by omega) (crsF x (gd HS (v + 1)).1.toNat).s (crsF x (gd HS (v + 1)).1.toNat).r (t := Jag (legY x v).1 2000 + Jag (legY x v).2.1 900) (by omega)).2
  simp only [Cr.cnt, Cr.show]; omega
 have g4 := (Jd0.1 (JpK (crsF x (gd HS (v + 1)).1.toNat) (f := Jag (legY x v).1 2000) (t := Jag (legY x v).1 2000 + Jag (legY x v).2.1 900) (by omega) (by omega) (by omega)))
 generalize hK1 : (crsF x (gd HS v).1.toNat).cnt (Jag (legY x v).1 2000) (Jag (legY x v).1 2000 + Jag (legY x v).2.1 900) = K1 at *; generalize hK2 : (crsF x (gd HS (v + 1)).1.toNat).cnt (Jag (legY x v).1 2000) (Jag (legY x v).1 2000 + Jag (legY x v).2.1 900) = K2 at *; clear hK1 hK2; generalize crsF x (gd HS v).1.toNat = R1 at *; generalize crsF x (gd HS (v + 1)).1.toNat = R2 at *; generalize Jag (legY x v).1 2000 = w1 at *; generalize Jag (legY x v).2.1 900 = w2 at *; generalize Jag (legY x v).2.2 400 = w3 at *; generalize Jag (legY x v).2.2 4 = w4 at *; generalize hLM : legM x HS v = LM at *; generalize hG' : lgN x HS (v + 1) = G' at *; generalize lgN x HS v = G at *
 have qg : G.take v = G := L03 (by omega)
 have y1 := y1; simp -implicitDefEqProofs (disch := omega) only [go_sem, e9, e1, e2, e3, m1, m2, m3, mg, mc, mt, mo, mu, false_and, and_self]
 refine JbX (λ E σ => E 9 = I v /\ E 10 = .ptr 14680224 3 0 0 /\ mdI x (HPS HS) G C8 T8 O8 U E σ /\ σ 14680224 = some ⟨107, 3, [.agg [I (legY x v).1, I (legY x v).2.1, I (legY x v).2.2]]⟩) (λ h0 => ?_) (λ h0 => ?_) ?_
 . have hne : x.legs ≠ [] := λ h => by rw [h] at h0; exact absurd h0 (by decide)
   rw [if_neg hne] at hY; have hlp := L1h.2 hne
   have hm : ((v : Int)).tmod x.legs.length = ((v % x.legs.length : Nat) : Int) := by rw [L0Z (by omega)]; omega
   have hlt : v % x.legs.length < x.legs.length := L1p _ hlp
   generalize v % x.legs.length = j at *; rw [hY]; simp -implicitDefEqProofs (disch := omega) only [go_sem, mdI, e9, e1, e2, e3, m1, m2, m3, mg, mc, mt, mo, mu, hm, false_and, and_self]; try rfl
 . have hnil : x.legs = [] := L0T (by omega)
   rw [if_pos hnil] at hY; rw [hY]; simp -implicitDefEqProofs (disch := omega) only [go_sem, mdI, e9, e1, e2, e3, m1, m2, m3, mg, mc, mt, mo, mu, false_and, and_self]; try rfl
 clear e9 e1 e2 e3 m1 m2 m3 mg mc mt mo mu E σ hY
 rintro E σ ⟨e9, e10, ⟨e1, e2, e3, m1, m2, m3, mg, mc, mt, mo, mu⟩, m10⟩
 generalize (legY x v).1 = u1 at *; generalize (legY x v).2.1 = u2 at *; generalize (legY x v).2.2 = u3 at *; simp -implicitDefEqProofs (disch := omega) only [go_sem, e9, e10, e1, e2, e3, m1, m2, m3, mg, mc, mt, mo, mu, m10, false_and, and_self]
 refine Jaa d1 ?_
 simp -implicitDefEqProofs (disch := omega) only [go_sem, e9, e10, e1, e2, e3, m1, m2, m3, mg, mc, mt, mo, mu, m10, false_and, and_self]
 refine Jaa d2 ?_
 simp -implicitDefEqProofs (disch := omega) only [go_sem, e9, e10, e1, e2, e3, m1, m2, m3, mg, mc, mt, mo, mu, m10, hvv, false_and, and_self]
 refine Jaa f1 ?_ (h4 := by first | exact .inl rfl | exact .inr (JpN _))
 simp -implicitDefEqProofs (disch := omega) only [go_sem, e9, e10, e1, e2, e3, m1, m2, m3, mg, mc, mt, mo, mu, m10, hvv, false_and, and_self]
 refine Jaa g1 ?_
 simp -implicitDefEqProofs (disch := omega) only [go_sem, e9, e10, e1, e2, e3, m1, m2, m3, mg, mc, mt, mo, mu, m10, hvv, false_and, and_self]
 refine Jaa f2 ?_ (h4 := by first | exact .inl rfl | exact .inr (JpN _))
 simp -implicitDefEqProofs (disch := omega) only [go_sem, e9, e10, e1, e2, e3, m1, m2, m3, mg, mc, mt, mo, mu, m10, hvv, false_and, and_self]
 refine Jaa g2 ?_
 simp -implicitDefEqProofs (disch := omega) only [go_sem, e9, e10, e1, e2, e3, m1, m2, m3, mg, mc, mt, mo, mu, m10, hvv, false_and, and_self]
 refine Jaa d4 ?_
 simp -implicitDefEqProofs (disch := omega) only [go_sem, e9, e10, e1, e2, e3, m1, m2, m3, mg, mc, mt, mo, mu, m10, hvv, false_and, and_self]
 refine JbX (λ E σ => E 9 = I v /\ E 13 = .ptr 14680272 6 0 0 /\ mdI x (HPS HS) G C8 T8 O8 U E σ /\ σ 14680272 = some ⟨62, 6, [LGP LM]⟩) (λ h0 => ?_) (λ h0 => ?_) ?_
 . rw [if_pos h0] at hlm; rw [hlm]; simp -implicitDefEqProofs (disch := omega) only [go_sem, e9, e10, e1, e2, e3, m1, m2, m3, mg, mc, mt, mo, mu, m10, false_and, and_self]
   refine Jaa d3 ?_
   simp -implicitDefEqProofs (disch := omega) only [go_sem, mdI, e9, e10, e1, e2, e3, m1, m2, m3, mg, mc, mt, mo, mu, m10, false_and, and_self]; try rfl
 . rw [if_neg h0] at hlm; rw [hlm]; simp -implicitDefEqProofs (disch := omega) only [go_sem, mdI, e9, e10, e1, e2, e3, m1, m2, m3, mg, mc, mt, mo, mu, m10, false_and, and_self]; try rfl
 clear e9 e10 e1 e2 e3 m1 m2 m3 mg mc mt mo mu m10 E σ hlm
 rintro E σ ⟨e9, e13, ⟨e1, e2, e3, m1, m2, m3, mg, mc, mt, mo, mu⟩, m13⟩
 simp -implicitDefEqProofs (disch := omega) only [go_sem, e9, e13, e1, e2, e3, m1, m2, m3, mg, mc, mt, mo, mu, m13, hgl, qg, false_and, and_self]
 refine Jad (HS.length - 1 - (v + 1)) (by omega) ⟨v + 1, by omega, ?_⟩
 rw [hG', s1]; simp -implicitDefEqProofs (disch := omega) only [go_sem, mdI, e9, e13, e1, e2, e3, m1, m2, m3, mg, mc, mt, mo, mu, m13, hgl, qg, L0b, L0e, L0r, false_and, and_self]
 try simp [hgl]
theorem Jqx (x : Nm) (b : x.ok) : (Jca x).ok where
 part := Jzx _ _ _
 rds := λ c a => by
  have := Jaz.1 (JbQ x)
  have := (JdZ.1 (L0f.1 this.2.2.1 c a)).1.2.2
  omega
 good := L0f.1 (Jaz.1 (JbQ x)).2.2.2.1
 hops := by have := (Jaz.1 (JbQ x)).2.1; omega
 legs := by have := (Jaz.1 (JbQ x)).2.1; omega
 cks := by have := (Jaz.1 (JbQ x)).2.1; omega
 tfs := by have := (Jaz.1 (JbQ x)).2.1; omega
 offs := by have := (Jaz.1 (JbQ x)).2.1; omega
 ups := by have := (Jaz.1 (JbQ x)).2.1; omega
end Go.Proofs.YtlecbpkidomjbaaGreatDoor
namespace Go.Vai
open Go.RowKit
end Go.Vai
set_option maxRecDepth 100000
namespace Go.Proofs.YtlecbpkidomjbaaGreatDoor
open Go.Proofs.Tryz
open Go.Vai Go Go.Proofs
@[go_sem] theorem JxL (l : List T3) (a b c : Int) : l.map QT ++ [.agg [.v (.int .i64 a), .v (.int .i64 b), .v (.int .i64 c)]] = (l ++ [(a, b, c)]).map QT := by simp
end Go.Proofs.YtlecbpkidomjbaaGreatDoor
set_option maxRecDepth 100000
namespace Go.Vai
open Go.RowKit Go.ChangeShapes Go.WideShapes
theorem Jvl {H : Type} {enc : TypeId × Value -> H} {C : Checked} {os : Os} {f : FuncId} {m : Func} {s : ChangeSpec} {g : List PathCond} {o h : Bool} {tb : TypeId} {ps : List (AV -> Prop)} {X : World -> Array Value -> Prop}
 (Y : ∀ (w Q : World) (a : Array Value), w.heap = Q.heap -> X w a -> X Q a)
 (M : ownKnob C.prog.godebug = none) (k : os.Started) (n : C.prog.inits.idxOf? f = none) (E : C.prog.funcs[f]? = some m)
 (l : ∃ (w : World) (c : Tape) (i : Input), w.os = os /\ (w.forCall c i).Shaped C.prog /\ i.vars = [] /\ Input.okWide C.prog (w.forCall c i) .any w.heap.size f i /\
  ((s.pre enc C.prog m g false (w.forCall c i).memory i.args /\ X (w.forCall c i).memory i.args) /\ sizedMet enc C.prog m (OpenSpec.ofChange s) false (w.forCall c i).memory i.args) /\ ({} : Assume).holds C.prog (lone (Frame.enter C.prog f i.args .normal) [] (w.forCall c i)))
 (hl : laidOutB C.prog = true) (hr : (m.params.toList.all λ t => C.prog.readableRec t && decide (t < C.prog.types.size)) = true) (K : m.resultTypes = #[tb]) (L : C.prog.underlying tb = some .bool) (r : s.vars = [])
 (hs : ∀ A : List (DataW H), A.length = m.params.size -> s.fn H A = { results := [.lit (.bool true)], args := A })
 (J : ∀ w : World, JeL C.prog enc w m.params.toList ps) (D : ∀ d, AllP ps d -> Ev C.prog f d (.v (.bool true))) (G : ∀ (w : World) (a : Array Value), X w a -> GOK w (Here w)) :
 ReturnsInHanded {} C os f .any (λ w a => (s.pre enc C.prog m g false w a /\ X w a) /\ sizedMet enc C.prog m (OpenSpec.ofChange s) false w a) (s.post enc C.prog m false o h false) := by
 refine returnsInHanded_of_change_and (C := C) (X := X) Y M k n E l ?_
 intro W N a A gs z x V _ _ S _
 obtain ⟨p, q, P, U, e, F, I⟩ := V
 obtain ⟨d, B, u⟩ := Jik (J W) P (λ j t v hj hv => x j t v (by simpa using hj) (by simpa using hv))
 have := (D d B d _ ⟨rfl, rfl⟩).2 W (Here W) a.toList (λ b Z => Z) (G W a S) u
 refine (this.mono ?_)
 rintro e' W' ⟨y, rfl, hx, R, _, _, T⟩
 obtain ⟨ob, O, _⟩ := T
 have hy : y = .bool true := by
  unfold R1 at O
  cases O.2 with | v => rfl
 subst hy
 exact ⟨_, rfl, JqT hl (λ t ht => by simpa using L0f.1 hr t ht) K L r hs ⟨p, q, P, U, e, F, I⟩ hx⟩
end Go.Vai
namespace Go.Proofs.YtlecbpkidomjbaaGreatDoor
open Go.Proofs.Tryz
open Go.Vai Go Go.Proofs Go.RowKit
theorem own3 : ownKnob Tryz.checked.prog.godebug = none := by kernel_rfl
theorem JsC : laidOutB Tryz.checked.prog = true := by kernel_rfl
abbrev Jn6 : List (String × DataW Unit) := [("dialtone/digest.round", Rows.laid_dialtone_digest_round)]
theorem Jye : prog.globalNamed "dialtone/digest.round" = some 0 := by kernel_rfl
def Jis : List Int := (gtab.headD (0, [])).2.map λ v => match v with | .int _ n => n | _ => 0
theorem JuY : gtab = [(0, Jis.map (Value.int .u32))] := by kernel_rfl
theorem Jvh : (Rows.laid_dialtone_digest_round : DataW Unit) = .agg (Jis.map λ n => .lit (.int .u32 n)) := by kernel_rfl
theorem Jl5 {W : World} (h : laidMetH prog Jn6 W) : ∀ (i : Nat) (v : Value), (Jis.map (Value.int .u32))[i]? = some v -> W.cell? ⟨0, i, none⟩ = some v := by
 rw [MakeChecks.laidMetH_plain _ _ _ (by kernel_rfl)] at h
 obtain ⟨L, ⟨H, y, b, G, K, M, c, o, p, j, _, _⟩, _, _⟩ := h
 obtain rfl := Option.some.inj (Jye.symm.trans c)
 have F : (prog.globals[0]?).map (·.type) = some y := o
 intro i v d
 rw [World.var?_cell c p i]
 have s : y = 303 := by
  have : (prog.globals[0]?).map (·.type) = some 303 := by kernel_rfl
  exact Option.some.inj (F.symm.trans this)
 subst s
 obtain ⟨z, J, rfl, f, w, I, l⟩ := DataW.trod_array (n := 64) (e := 280) (by kernel_rfl) j
 have A : prog.cellsOf 280 = 1 := by kernel_rfl
 simp only [Prod.mk.injEq] at f; have q := f.1; rw [Jvh] at q; simp only [DataW.agg.injEq] at q
 have m : Jis.length = 64 := by kernel_rfl
 have D : i < 64 := by
  have := (L0a.1 d).1
  rw [L0c, m] at this; exact this
 have g := l i D; rw [A, L0U] at g
 cases hxi : z[i]? with
 | none => rw [L1X] at hxi; omega
 | some x =>
  rw [hxi] at g
  obtain ⟨n, B, C, _⟩ := DataW.trod_int (k := .u32) (by kernel_rfl) g
  have t : (z.map (·.1))[i]? = some x.1 := by rw [L07, hxi]; rfl
  rw [<- q, L07] at t
  obtain ⟨r, E, a⟩ := L0h.1 t
  rw [L07, E] at d; have d := Option.some.inj d; rw [C] at a; simp only [DataW.lit.injEq, Lit.int.injEq, true_and] at a
  have u : (b.toList.drop i)[0]? = some (.int .u32 n) := by
   have : ((b.toList.drop i).take 1)[0]? = some (.int .u32 n) := by rw [B]; rfl
   rwa [L0j, if_pos (by omega)] at this
  rw [L0D, L0R] at u; rw [<- L0P, u, <- d, a]
theorem gok {W : World} (h : laidMetH prog Jn6 W) : GOK W (Here W) := by
 intro p c
 rw [JuY, L0u] at c; subst c; have b := Jl5 h
 refine ⟨?_, λ i v d => ⟨b i v d, ?_⟩⟩
 . have e : (Jis.map (Value.int .u32))[0]? = some (.int .u32 (gd Jis 0)) := by kernel_rfl
   have := b 0 _ e
   show 0 < W.heap.size
   rcases Nat.eq_zero_or_pos W.heap.size with a | a
   . have : W.heap[0]? = none := Array.getElem?_eq_none (by omega)
     simp [World.cell?, this] at *
   . exact a
 . obtain ⟨r, _, rfl⟩ := L05.1 (L02 d)
   rfl
theorem Jsn (os : Os) (a : Array Value) : laidMetH prog Jn6 ((World.doorLaid prog 7 os).forCall (λ _ _ => 0) ⟨#[], a, []⟩).memory :=
 laidMetH_of_parts3 (fuel := 8) (laidMet_of_run' 8 (by kernel_rfl) (by kernel_rfl)) (by kernel_rfl) (by kernel_rfl)
section
variable {H : Type} {enc : TypeId × Value -> H} {w : World}
def OI (a : AV) : Prop := ∃ n, R64 n /\ a = I n
theorem wf64 {n : Int} : (Lit.int .i64 n).wf = true ↔ R64 n := by
 have a : IntKind.i64.min = -9223372036854775808 := by decide
 have b : IntKind.i64.max = 9223372036854775807 := by decide
 simp [Lit.wf, R64, a, b]
theorem JhS {t : TypeId} (b : prog.underlying t = some (.int .i64)) : Jb6 prog enc w t OI :=
 (JqM b).mono (λ a ⟨n, h, e⟩ => ⟨n, wf64.1 h, e⟩) λ a ⟨n, h, e⟩ => ⟨n, wf64.2 h, e⟩
def OS (a : AV) : Prop := ∃ s : ByteArray, s.size <= 9223372036854775807 /\ a = Str s
def OSL (a : AV) : Prop := ∃ l : List Int, l.length <= 9223372036854775807 /\ (∀ x ∈ l, R64 x) /\ a = SL l
theorem Jm4 : Jb6 prog enc w 25 OSL :=
 (Jcw (T := Int) (q := R64) (f := I) (e := 3) (sz := 1) (by kernel_rfl) (by kernel_rfl) (by decide) ((JhS (by kernel_rfl)).mono (λ a ⟨n, h, e⟩ => ⟨n, h, e⟩) λ a ⟨n, h, e⟩ => ⟨n, h, e⟩)).mono
  (λ a ⟨l, h, h1, e⟩ => ⟨l, h, h1, e⟩) λ a ⟨l, h, h1, e⟩ => ⟨l, h, h1, e⟩
def OT (a : AV) : Prop := ∃ x y z : Int, R64 x /\ R64 y /\ R64 z /\ a = .agg [I x, I y, I z]
theorem Jvt : Jb6 prog enc w 107 OT :=
 (JeC (T := Int) (q := R64) (f := I) (e := 3) (n := 3) (sz := 1) (by kernel_rfl) (by kernel_rfl) (by kernel_rfl) (JhS (by kernel_rfl))).mono
  (λ a ⟨l, h, h1, e⟩ => by
   match l, h with
   | [x, y, z], _ => exact ⟨x, y, z, h1 x (by simp), h1 y (by simp), h1 z (by simp), e⟩)
  λ a ⟨x, y, z, h1, h2, h3, e⟩ => ⟨[x, y, z], rfl, by simp [h1, h2, h3], e⟩
def OT1 (a : AV) : Prop := ∃ q : T3, T3ok q /\ a = QT q
theorem JsS : Jb6 prog enc w 107 OT1 :=
 Jvt.mono (λ a ⟨x, y, z, h1, h2, h3, e⟩ => ⟨(x, y, z), ⟨h1, h2, h3⟩, e⟩) λ a ⟨q, h, e⟩ => ⟨q.1, q.2.1, q.2.2, h.1, h.2.1, h.2.2, e⟩
def OTS (a : AV) : Prop := ∃ l : List T3, l.length <= 9223372036854775807 /\ (∀ x ∈ l, T3ok x) /\ a = QTS l
theorem Jm5 : Jb6 prog enc w 23 OTS :=
 (Jcw (T := T3) (q := T3ok) (f := QT) (e := 107) (sz := 3) (by kernel_rfl) (by kernel_rfl) (by decide) JsS).mono
  (λ a ⟨l, h, h1, e⟩ => ⟨l, h, h1, e⟩) λ a ⟨l, h, h1, e⟩ => ⟨l, h, h1, e⟩
def OC (a : AV) : Prop := ∃ y : Cr, y.ok /\ a = CRP y
theorem JsR : Jb6 prog enc w 96 OC :=
 (Jgh (ps := [OI, OI, OSL, OTS]) (Tryz.underlying96) ⟨JhS (by kernel_rfl), JhS (by kernel_rfl), Jm4, Jm5, trivial⟩ (by kernel_rfl) (by kernel_rfl)).mono
  (λ a h => by
   obtain ⟨g, i, rfl⟩ := h
   revert i
   exact Jxu (Q := λ l => OC (AV.agg (l.flatMap AV.cells))) (λ a b c d ⟨f, h1, e1⟩ ⟨m, h2, e2⟩ ⟨k, h3, h4, e3⟩ ⟨q, h5, h6, e4⟩ => ⟨⟨f, m, k, q⟩, ⟨h1, h2, h4, h3, h6, h5⟩, by subst e1; subst e2; subst e3; subst e4; rfl⟩) g)
  λ a ⟨u, h, e⟩ => ⟨[I u.d, I u.s, SL u.r, QTS u.at_], ⟨⟨u.d, h.1, rfl⟩, ⟨u.s, h.2.1, rfl⟩, ⟨u.r, h.2.2.2.1, h.2.2.1, rfl⟩, ⟨u.at_, h.2.2.2.2.2, h.2.2.2.2.1, rfl⟩, trivial⟩, e⟩
end
section
variable {H : Type} {enc : TypeId × Value -> H} {w : World}
def OP (a : AV) : Prop := ∃ x y : Int, R64 x /\ R64 y /\ a = .agg [I x, I y]
theorem JyK : Jb6 prog enc w 105 OP :=
 (JeC (T := Int) (q := R64) (f := I) (e := 3) (n := 2) (sz := 1) (by kernel_rfl) (by kernel_rfl) (by kernel_rfl) (JhS (by kernel_rfl))).mono
  (λ a ⟨l, h, h1, e⟩ => by
   match l, h with
   | [x, y], _ => exact ⟨x, y, h1 x (by simp), h1 y (by simp), e⟩)
  λ a ⟨x, y, h1, h2, e⟩ => ⟨[x, y], rfl, by simp [h1, h2], e⟩
def OP1 (a : AV) : Prop := ∃ q : Int × Int, (R64 q.1 /\ R64 q.2) /\ a = HPP q
theorem Jvr : Jb6 prog enc w 105 OP1 :=
 JyK.mono (λ a ⟨x, y, h1, h2, e⟩ => ⟨(x, y), ⟨h1, h2⟩, e⟩) λ a ⟨q, h, e⟩ => ⟨q.1, q.2, h.1, h.2, e⟩
def OPS (a : AV) : Prop := ∃ l : List (Int × Int), l.length <= 9223372036854775807 /\ (∀ x ∈ l, R64 x.1 /\ R64 x.2) /\ a = HPS l
theorem Jvs : Jb6 prog enc w 22 OPS :=
 (Jcw (T := Int × Int) (q := λ x => R64 x.1 /\ R64 x.2) (f := HPP) (e := 105) (sz := 2) (by kernel_rfl) (by kernel_rfl) (by decide) Jvr).mono
  (λ a ⟨l, h, h1, e⟩ => ⟨l, h, h1, e⟩) λ a ⟨l, h, h1, e⟩ => ⟨l, h, h1, e⟩
def OQ1 (a : AV) : Prop := ∃ x : Q4, Q4ok x /\ a = QP x
theorem JyJ : Jb6 prog enc w 139 OQ1 :=
 (JeC (T := Int) (q := R64) (f := I) (e := 3) (n := 4) (sz := 1) (by kernel_rfl) (by kernel_rfl) (by kernel_rfl) (JhS (by kernel_rfl))).mono
  (λ a ⟨l, h, g, e⟩ => by
   match l, h with
   | [x, y, z, u], _ => exact ⟨⟨x, y, z, u⟩, ⟨g x (by simp), g y (by simp), g z (by simp), g u (by simp)⟩, e⟩)
  λ a ⟨x, h, e⟩ => ⟨[x.a, x.b, x.c, x.d], rfl, by obtain ⟨g, i, j, k⟩ := h; simp [g, i, j, k], e⟩
def OQ (a : AV) : Prop := ∃ l : List Q4, l.length <= 9223372036854775807 /\ (∀ x ∈ l, Q4ok x) /\ a = QL l
theorem Jvq : Jb6 prog enc w 26 OQ :=
 (Jcw (T := Q4) (q := Q4ok) (f := QP) (e := 139) (sz := 4) (by kernel_rfl) (by kernel_rfl) (by decide) JyJ).mono
  (λ a ⟨l, h, h1, e⟩ => ⟨l, h, h1, e⟩) λ a ⟨l, h, h1, e⟩ => ⟨l, h, h1, e⟩
def OCS (a : AV) : Prop := ∃ l : List Cr, l.length <= 9223372036854775807 /\ (∀ x ∈ l, x.ok) /\ a = CRS l
theorem JqI : Jb6 prog enc w 24 OCS :=
 (Jcw (T := Cr) (q := Cr.ok) (f := CRP) (e := 96) (sz := 4) (by kernel_rfl) (by kernel_rfl) (by decide) JsR).mono
  (λ a ⟨l, h, h1, e⟩ => ⟨l, h, h1, e⟩) λ a ⟨l, h, h1, e⟩ => ⟨l, h, h1, e⟩
def ON (a : AV) : Prop := ∃ x : Nm, x.ok /\ a = NMP x
theorem JqJ : Jb6 prog enc w 28 ON :=
 (Jgh (ps := [OPS, OTS, OCS, OSL, OQ, OSL, OSL]) (Tryz.underlying28) ⟨Jvs, Jm5, JqI, Jm4, Jvq, Jm4, Jm4, trivial⟩ (by kernel_rfl) (by kernel_rfl)).mono
  (λ a h => by
   obtain ⟨i, j, rfl⟩ := h
   revert j
   exact Jxw (Q := λ l => ON (AV.agg (l.flatMap AV.cells))) (λ a b c d e f g ⟨k, h1, i1, e1⟩ ⟨x2, h2, i2, e2⟩ ⟨x3, h3, i3, e3⟩ ⟨x4, h4, i4, e4⟩ ⟨x5, h5, i5, e5⟩ ⟨x6, h6, i6, e6⟩ ⟨x7, h7, i7, e7⟩ =>
    ⟨⟨k, x2, x3, x4, x5, x6, x7⟩, ⟨i1, h1, i2, h2, i3, h3, i4, h4, i5, h5, i6, h6, i7, h7⟩, by subst e1; subst e2; subst e3; subst e4; subst e5; subst e6; subst e7; rfl⟩) i)
  λ a ⟨u, h, e⟩ => ⟨[HPS u.hops, QTS u.legs, CRS u.crs, SL u.bases, QL u.rates, SL u.offs, SL u.wit], ⟨⟨_, h.hopsL, h.hops, rfl⟩, ⟨_, h.legsL, h.legs, rfl⟩, ⟨_, h.crsL, h.crs, rfl⟩, ⟨_, h.basesL, h.bases, rfl⟩, ⟨_, h.ratesL, h.rates, rfl⟩, ⟨_, h.offsL, h.offs, rfl⟩, ⟨_, h.witL, h.wit, rfl⟩, trivial⟩, e⟩
end
end Go.Proofs.YtlecbpkidomjbaaGreatDoor

/- Trips; the frame -/
import Derived.Test.YtlecbpkidomjbaaGreatDoorKH
import Derived.Test.YtlecbpkidomjbaaGreatDoorRows
import Derived.Test.YtlecbpkidomjbaaGreatDoorCards
import Derived.Test.YtlecbpkidomjbaaGreatDoorTie
import Derived.ProofKit
import Derived.LaidMore
import Derived.OpenShut
import Derived.Stop.Joined
import Derived.Handed
import Derived.Lay
set_option linter.all false
set_option maxRecDepth 100000
namespace Go.Proofs.YtlecbpkidomjbaaGreatDoor
open Go.Proofs.Tryz
open Go.Vai Go Go.Proofs
theorem Jhf : ∀ (n : Nat) (l : List ByteArray) (i : Nat), l.length <= n -> (JbX l i).length <= l.length
 | 0, l, i, c => by
  have b : JbX l i = [] := Jbv JaK Ja2 empF (by omega) i
  rw [b]; exact L15 _
 | n + 1, l, i, c => by
  by_cases h : 2 <= l.length
  . have d := Jb8 (n := l.length) (by omega)
    have f := JbC l.length; rw [JfI h]
    split
    . have := Jhf n (l.take (Jax l.length)) i (by rw [L01]; omega)
      rw [L01] at this
      rw [L0c]; omega
    . have := Jhf n (l.drop (Jax l.length)) (i - Jax l.length) (by rw [L0g]; omega)
      rw [L0g] at this
      rw [L0c]; omega
  . have b : JbX l i = [] := Jbv JaK Ja2 empF (by omega) i
    rw [b]; exact L15 _
theorem Jvu {d : ByteArray} {r : Rg} {n : Int} {l : List Int} {p : Pt} (h : Ji7 d r n l = some p) (o : l.length <= 9223372036854775807) : PtOK p := by
 obtain ⟨_, k, f⟩ := JhG h
 unfold Ji7 at h
 split at h
 . rename_i m; obtain ⟨s, c, t, q⟩ := m; have c := Jd6.1 c
   have b : ∀ j : Nat, (gd r.l j).size <= 1000 := λ j => by
    by_cases hj : j < r.l.length
    . exact c.2.2 _ (Jan _ _ hj)
    . rw [Jlg _ _ (by omega)]; exact L15 _
   refine ⟨?_, ?_, ?_⟩
   . rw [k]; simp only [Jiz]; rw [Jd7]; omega
   . rw [f, L0b]; exact o
   . intro x g
     rw [f] at g
     obtain ⟨i, _, rfl⟩ := L04.1 g
     refine ⟨?_, ?_⟩
     . have := b i.toNat; simp only [JeX]; omega
     . have := Jhf (r.l.take n.toNat).length (r.l.take n.toNat) i.toNat (L08 _)
       rw [L01] at this
       show (JbX (r.l.take n.toNat) i.toNat).reverse.length <= _
       rw [L1A]; omega
 . cases h
theorem Jl1 (n : Nat) (i : Int) (hi : 0 <= i /\ i < n) : ∀ (l : List Int) (o : Option Int), (∀ q, o = some q -> q < i) -> (∀ q ∈ l, q < i) -> ascN n o l = true -> ascN n o (l ++ [i]) = true
 | [], o, d, _, _ => by
  rw [L23, ascN, ascN, Bool.and_true, decide_eq_true_iff]; exact ⟨hi, d⟩
 | x :: l, o, d, c, h => by
  rw [ascN, L00] at h; rw [L0K, ascN, L00]
  exact ⟨h.1, Jl1 n i hi l (some x) (λ q b => by cases b; exact c _ (by simp)) (λ q b => c q (L1q _ b)) h.2⟩
theorem JlX (w : List Int) : ∀ i, ∀ q ∈ witN w i, 0 <= q /\ q < i
 | 0, q, h => by cases h
 | i + 1, q, h => by
  rw [witN] at h
  rcases L0t.1 h with h | h
  . have := JlX w i q h; omega
  . split at h
    . obtain rfl := L0r.1 h; omega
    . cases h
theorem Jm2 (w : List Int) (n : Nat) : ∀ i, i <= n -> ascN n none (witN w i) = true
 | 0, _ => rfl
 | i + 1, h => by
  have ih := Jm2 w n i (by omega)
  rw [witN]
  split
  . exact Jl1 n i (by omega) _ _ (λ q hq => by cases hq) (λ q hq => (JlX w i q hq).2) ih
  . rw [L0C]; exact ih
theorem JgB (w : List Int) : ∀ i, (witN w i).length <= i
 | 0 => L08 _
 | i + 1 => by
  have := JgB w i
  rw [witN, L0a]
  split <;> simp <;> omega
theorem JqD (l : Lg) (e : Int) : (recF l e).size <= 60 := by
 unfold recF recN; simp only [L0u]; have c := Jav 8; have d := Jav l.f; have h := Jav l.t; have i := Jav e
 have j := Jav (if e = 1 then l.g else l.k).b
 have m := Jav (if e = 1 then l.g else l.k).e
 omega
theorem Jrk (n : Nat) (j : Nat) : (gd (upsN n) j).size <= 8 := by
 by_cases hj : j < (upsN n).length
 . have b := Jan (upsN n) j hj; generalize gd (upsN n) j = s at *
   obtain ⟨v, _, rfl⟩ := L04.1 b
   exact L08 _
 . rw [Jlg _ _ (by omega)]; exact L15 _
theorem Jrp (n : Nat) (legs : List Lg) (w : Int) : (witE Ja1 (upsN n) legs w).size <= 1000 := by
 unfold witE
 split
 . have := Jrk n (Jaf (w.tdiv 3) (upsN n).length).toNat; omega
 . split
   . have := JqD (gd legs (Jaf (w.tdiv 6) legs.length).toNat) (1 + Jaf (w.tdiv 3) 2); omega
   . exact L0z rfl
theorem JpY (c : Int) : keyS c = keyF c := rfl
theorem Jjl (n : Nat) (legs : List Lg) (w : List Int) : Ji7 (keyS 0) (witR Ja1 (upsN n) legs w) (min w.length 12 : Nat) (witN w (min w.length 12)) = some (witP Ja1 (upsN n) legs w) := by
 have b : (witR Ja1 (upsN n) legs w).l.length = min w.length 12 := by simp only [witR, L0b, L01]; omega
 unfold Ji7; rw [if_pos, L1m]
 . rfl
 . refine ⟨JpX 0, Jd6.2 ⟨?_, by rw [b]; omega, λ s c => ?_⟩, by rw [b]; omega, ?_⟩
   . simp only [witR]; omega
   . obtain ⟨x, _, rfl⟩ := L04.1 c
     exact Jrp n legs x
   . rw [L1m]; exact Jm2 w _ _ (L08 _)
theorem Jrr (n : Nat) (legs : List Lg) (w : List Int) : Jcz (keyS 0) (witP Ja1 (upsN n) legs w) = true := (JhG (Jjl n legs w)).1
theorem Jzg (n : Nat) (legs : List Lg) (w : List Int) : PtOK (witP Ja1 (upsN n) legs w) := by
 refine Jvu (Jjl n legs w) ?_
 have := JgB w (min w.length 12)
 omega
theorem JmA (b : List (Int × Int)) : ∀ (l : List Lg) (v : Nat), (∀ i, i < l.length -> legF (gd l i) = true /\ (gd l i).f = (gd b (v + i)).1 /\ (gd l i).t = (gd b (v + i + 1)).1) -> Jfz b v l = true
 | [], _, _ => rfl
 | x :: l, v, h => by
  rw [Jfz, L00, L00, decide_eq_true_iff]
  have c := h 0 (by simp)
  rw [JaJ] at c
  refine ⟨c, JmA b l (v + 1) λ i d => ?_⟩
  have := h (i + 1) (by simpa using d)
  rw [Jap, show v + (i + 1) = v + 1 + i by omega] at this
  exact this
theorem JdK (x : Nm) (b : List (Int × Int)) : (Jhz x b).length = b.length - 1 := by simp [Jhz]
theorem JiI (x : Nm) (b : List (Int × Int)) {i : Nat} (h : i < b.length - 1) : gd (Jhz x b) i = legM x b i := by simp [Jhz, gd, h]
theorem Jds (n : Nat) : (upsN n).length = n := by simp [upsN]
theorem Jmu (x : List (Int × Int)) : 0 <= (JdJ x).2 /\ (JdJ x).2 <= 20 := by
 have h := JdI x
 exact (JdX x _ (Jan (Jau x) _ (by omega))).2
theorem Jbm (x : Nm) : Jef (JaE x) = true := by
 have hl := JdI x.hops; have h2 := Jmu x.hops
 have hup : ((upsN ((JdJ x.hops).2 + 2).toNat).length : Int) = (JdJ x.hops).2 + 2 := by rw [Jds]; omega
 unfold Jef; simp only [L00, decide_eq_true_iff, L0d]
 refine ⟨Jrr _ _ _, ⟨⟨hl.1, by simp only [JaE]; omega⟩, JdK _ _, by simp [JaE], by simp [JaE], by simp [JaE], ?_⟩, ?_, ?_, ?_, ?_, ?_⟩
 . simp only [JaE]; omega
 . intro c hc
   obtain ⟨i, _, rfl⟩ := L04.1 hc
   exact (Jl9 _ _ _ _).2
 . intro c hc
   obtain ⟨i, _, rfl⟩ := L04.1 hc
   exact Js7 _ _
 . intro c hc
   obtain ⟨i, _, rfl⟩ := L04.1 hc
   exact Jvc _ _
 . refine Jmp _ _ _ (λ h hh => ?_) (λ v hv => ?_)
   . obtain ⟨i, hi, rfl⟩ : ∃ i, i < (Jau x.hops).length /\ gd (Jau x.hops) i = h := by
      have hh' : h ∈ Jau x.hops := hh
      obtain ⟨i, hi, e⟩ := L1h.1 hh'
      exact ⟨i, hi, by rw [gd, L0U, L07 hi]; exact e⟩
     have a := JdX x.hops _ hh
     have b := Jmq x.hops ((Jau x.hops).length - 1 - i) i (by omega) (by omega)
     refine ⟨a.1, by omega, ?_⟩
     show _ < (((upsN ((JdJ x.hops).2 + 2).toNat).length : Nat) : Int)
     omega
   . show (gd ((-1, 0) :: Jau x.hops) (v + 1)).1 ≠ _ /\ _
     have hv' : v < (Jau x.hops).length := hv
     show (gd ((-1, 0) :: Jau x.hops) (v + 1)).1 ≠ (gd ((-1, 0) :: Jau x.hops) v).1 /\ (gd ((-1, 0) :: Jau x.hops) v).2 <= (gd ((-1, 0) :: Jau x.hops) (v + 1)).2
     rw [Jap]
     cases v with
     | zero =>
      have a := JdX x.hops _ (Jan (Jau x.hops) 0 hv'); rw [JaJ]
      simp only
      omega
     | succ v =>
      rw [Jap]
      exact Jfs x.hops hv'
 . refine JmA _ _ _ λ i hi => ?_
   have hi' : i < (Jau x.hops).length - 1 := by rw [<- JdK x]; exact hi
   show legF (gd (Jhz x (Jau x.hops)) i) = true /\ (gd (Jhz x (Jau x.hops)) i).f = _ /\ (gd (Jhz x (Jau x.hops)) i).t = _
   rw [JiI _ _ hi', L0q]
   exact ⟨Jp1 x (by omega), rfl, rfl⟩
abbrev HPP (h : Int × Int) : AV := .agg [I h.1, I h.2]
abbrev LGS (l : List Lg) : AV := .sl 6 (l.map LGP)
abbrev TPP (t : Tp) : AV := .agg [HPS t.hops, LGS t.legs, CKS t.cks, TFS t.tfs, SL t.offs, Str t.key, I t.part.h.c, I t.part.h.n, Str t.part.h.r, Str t.part.h.s, ITS t.part.l, Str t.call, SLs t.ups]
abbrev TRP (t : Tp) : AV := .agg [HPS t.hops, LGS t.legs, CKS t.cks, TFS t.tfs, SL t.offs, Str t.key, I t.part.h.c, I t.part.h.n, Str t.part.h.r, Str t.part.h.s, ITS t.part.l, Str t.call, SLs t.ups, .mp ((evM (evF t.key t.part)).map entS)]
section
variable (p : Nat -> Bool) (l : List Lg)
@[go_sem] theorem Jws : AV.namesL p (l.map LGP) = false := Jaj p l LGP λ _ => rfl
@[go_sem] theorem JxR : AV.flatL (l.map LGP) = true := JaR l LGP λ _ => rfl
@[go_sem] theorem Jw5 : Jbq 6 (l.map LGP) = true := Jaw 6 l LGP λ _ => ⟨rfl, rfl⟩
end
section
variable (p : Nat -> Bool) (l : List (Int × Int))
@[go_sem] theorem Jwq : AV.namesL p (l.map HPP) = false := Jaj p l HPP λ _ => rfl
@[go_sem] theorem JxQ : AV.flatL (l.map HPP) = true := JaR l HPP λ _ => rfl
@[go_sem] theorem Jw3 : Jbq 2 (l.map HPP) = true := Jaw 2 l HPP λ _ => ⟨rfl, rfl⟩
end
structure Tp.ok (t : Tp) : Prop where
 part : PtOK t.part
 rds : ∀ c ∈ t.cks, c.r.length <= 9223372036854775807
 good : ∀ x ∈ t.tfs, JbF x = true
 hops : t.hops.length <= 9223372036854775807
 legs : t.legs.length <= 9223372036854775807
 cks : t.cks.length <= 9223372036854775807
 tfs : t.tfs.length <= 9223372036854775807
 offs : t.offs.length <= 9223372036854775807
 ups : t.ups.length <= 9223372036854775807
theorem Jsy (c : Ck) (b : c.r.length <= 9223372036854775807) : Ev prog 61 [CKP c] (B (!Jb3 c)) := by
 refine EV func61 ?_
 simp -implicitDefEqProofs (disch := omega) only [go_sem, ntmps61]
 refine Jaa (JhI c b) ?_
 simp -implicitDefEqProofs (disch := omega) only [go_sem, results61]
theorem Jsz (x : Tf) (h : JbF x = true) : Ev prog 64 [TF x] (B (!JbF x)) := by
 rw [h]
 refine EV func64 ?_
 simp -implicitDefEqProofs (disch := omega) only [go_sem, ntmps64]
 refine Jaa (Jdt x h) ?_
 simp -implicitDefEqProofs (disch := omega) only [go_sem, results64]
theorem JsA (n : Int) : Ev prog 67 [I n] (B (!Jdz n)) := by
 refine EV func67 ?_
 simp -implicitDefEqProofs (disch := omega) only [go_sem, ntmps67]
 refine Jaa (Jd0 n (-50400) 50400) ?_
 simp -implicitDefEqProofs (disch := omega) only [go_sem, results67]; try rfl
theorem Ju5 {T : Type} (Q : T -> Bool) (l : List T) : (l.any λ x => !Q x) = !l.all Q := by rw [<- JoE, Bool.not_not]
abbrev opV (z : Bool) (r : AV) : AV := if z = true then .tup [r, I 0] else .tup [.v (.pointer none), I 380]
set_option maxHeartbeats 8000000 in
theorem JsB (t : Tp) (ht : t.ok) : Ev prog 36 [TPP t] (opV (Jef t) (.nptr 167 14 [TRP t])) := by
 obtain ⟨o1, o2, o3, o4, o5, o6, o7, o8, o9⟩ := ht; have R := Jvh t.key t.part o1
 have S := JuF 61 [] (λ c => !Jb3 c) t.cks (λ c F => Jsy c (o2 c F)) (λ _ => rfl) (λ _ => rfl) o6
 have T := JuI 64 [] (λ c => !JbF c) t.tfs (λ c F => Jsz c (o3 c F)) (λ _ => rfl) (λ _ => rfl) o7
 have U := JuG 67 [] (λ c => !Jdz c) t.offs (λ c F => JsA c) (λ _ => rfl) (λ _ => rfl) o8
 rw [Ju5] at S T U
 have d : Jef t = (Jcz t.key t.part && (decide ((1 <= t.hops.length /\ t.hops.length <= 12) /\ t.legs.length = t.hops.length - 1 /\ t.cks.length = 8 /\ t.tfs.length = 8 /\ t.offs.length = 8 /\ t.ups.length <= 30) &&
  (t.cks.all Jb3 && (t.tfs.all JbF && (t.offs.all Jdz && (JgY t.ups.length (-1, 0) t.hops && Jfz t.hops 0 t.legs)))))) := rfl
 obtain ⟨N, hN⟩ := JjH (evF t.key t.part)
 simp only [TRP, opV]; rw [hN] at R ⊢; generalize Jef t = z at *; generalize Jcz t.key t.part = g at *; generalize t.cks.all Jb3 = b1 at *; generalize t.tfs.all JbF = b2 at *; generalize t.offs.all Jdz = b3 at *
 obtain ⟨hops, legs, cks, tfs, offs, L, ⟨⟨pc, pn, pr, ps⟩, pl⟩, G, ups⟩ := t
 simp only at *
 clear hN o1 o2 o3
 refine EV func36 ?_
 simp -implicitDefEqProofs (disch := omega) only [go_sem, ntmps36]
 refine Jaa R ?_
 cases g with
 | false =>
  rw [L0e] at d; subst d; simp -implicitDefEqProofs (disch := omega) only [go_sem, results36]
 | true =>
 rw [L0h] at d; simp -implicitDefEqProofs (disch := omega) only [go_sem]
 refine Jaa (Jd0 hops.length 1 12) ?_
 by_cases h1 : 1 <= (hops.length : Int) /\ (hops.length : Int) <= 12
 rotate_left
 . rw [decide_eq_false (by omega), L0e] at d
   rw [decide_eq_false h1]; subst d; simp -implicitDefEqProofs (disch := omega) only [go_sem, results36]
 rw [decide_eq_true h1]; simp -implicitDefEqProofs (disch := omega) only [go_sem]
 refine Jab (λ V => ?_) (λ V => ?_)
 . rw [decide_eq_false (by omega), L0e] at d
   subst d; simp -implicitDefEqProofs (disch := omega) only [go_sem, V, results36]
 simp -implicitDefEqProofs (disch := omega) only [go_sem]
 refine Jab (λ W => ?_) (λ W => ?_)
 . rw [decide_eq_false (by omega), L0e] at d
   subst d; simp -implicitDefEqProofs (disch := omega) only [go_sem, W, results36]
 simp -implicitDefEqProofs (disch := omega) only [go_sem]
 refine Jab (λ X => ?_) (λ X => ?_)
 . rw [decide_eq_false (by omega), L0e] at d
   subst d; simp -implicitDefEqProofs (disch := omega) only [go_sem, X, results36]
 simp -implicitDefEqProofs (disch := omega) only [go_sem]
 refine Jab (λ Y => ?_) (λ Y => ?_)
 . rw [decide_eq_false (by omega), L0e] at d
   subst d; simp -implicitDefEqProofs (disch := omega) only [go_sem, Y, results36]
 simp -implicitDefEqProofs (disch := omega) only [go_sem]
 refine Jab (λ Z => ?_) (λ Z => ?_)
 . rw [decide_eq_false (by omega), L0e] at d
   subst d; simp -implicitDefEqProofs (disch := omega) only [go_sem, Z, results36]
 simp -implicitDefEqProofs (disch := omega) only [go_sem]
 rw [decide_eq_true (by omega), L0h] at d
 refine Jaa S ?_
 cases b1 with
 | false =>
  rw [L0e] at d; subst d; simp -implicitDefEqProofs (disch := omega) only [go_sem, results36]
 | true =>
 rw [L0h] at d; simp -implicitDefEqProofs (disch := omega) only [go_sem]
 refine Jaa T ?_
 cases b2 with
 | false =>
  rw [L0e] at d; subst d; simp -implicitDefEqProofs (disch := omega) only [go_sem, results36]
 | true =>
 rw [L0h] at d; simp -implicitDefEqProofs (disch := omega) only [go_sem]
 refine Jaa U ?_
 cases b3 with
 | false =>
  rw [L0e] at d; subst d; simp -implicitDefEqProofs (disch := omega) only [go_sem, results36]
 | true =>
 rw [L0h] at d; simp -implicitDefEqProofs (disch := omega) only [go_sem]
 refine Jag (λ n E J => ∃ (i : Nat) (C : Int × Int), i + n = hops.length /\ z = (JgY ups.length C (hops.drop i) && Jfz hops 0 legs) /\ E 1 = .ptr 77594640 13 0 0 /\ E 4 = .mp ((mI N).map entS) /\ E 6 = .ptr 77594720 2 0 0 /\ E 77 = HPS hops /\ E 78 = I hops.length /\ E 79 = I i /\
  J 77594640 = some ⟨41, 13, [.agg [HPS hops, LGS legs, CKS cks, TFS tfs, SL offs, Str L, I pc, I pn, Str pr, Str ps, ITS pl, Str G, SLs ups]]⟩ /\ J 77594720 = some ⟨104, 2, [.agg [I C.1, I C.2]]⟩) hops.length ⟨0, (-1, 0), by omega, d, ?_⟩ ?_
 . simp -implicitDefEqProofs (disch := omega) only [go_sem]; try rfl
 clear d
 rintro n E J ⟨i, ⟨la, lb⟩, hi, d, q, s, y, m, o, p, u, B⟩
 simp -implicitDefEqProofs (disch := omega) only [go_sem, q, s, y, m, o, p, u, B]
 refine Jab (λ F => ?_) (λ F => ?_)
 . have H : i < hops.length := by omega
   rw [Ja6 hops i H, JgY, L1j] at d; generalize D : gd hops i = h at *; obtain ⟨P, Q⟩ := h
   simp only at *
   simp -implicitDefEqProofs (disch := omega) only [go_sem, D, q, s, y, m, o, p, u, B]
   refine Jaa (Jdc P) ?_
   by_cases M : 0 <= P /\ P <= 7
   rotate_left
   . rw [decide_eq_false (by omega), L0e] at d
     rw [decide_eq_false M]; subst d; simp -implicitDefEqProofs (disch := omega) only [go_sem, D, q, s, y, m, o, p, u, B, results36]
   rw [decide_eq_true M]; simp -implicitDefEqProofs (disch := omega) only [go_sem, D, q, s, y, m, o, p, u, B]
   refine Jab (λ O => ?_) (λ O => ?_)
   . rw [decide_eq_false (by omega), L0e] at d
     subst d; simp -implicitDefEqProofs (disch := omega) only [go_sem, D, O, q, s, y, m, o, p, u, B, results36]
   simp -implicitDefEqProofs (disch := omega) only [go_sem, D, q, s, y, m, o, p, u, B]
   refine Jaa (Jd0 Q lb 29) ?_
   by_cases q3 : lb <= Q /\ Q <= 29
   rotate_left
   . rw [decide_eq_false (by omega), L0e] at d
     rw [decide_eq_false q3]; subst d; simp -implicitDefEqProofs (disch := omega) only [go_sem, D, q, s, y, m, o, p, u, B, results36]
   rw [decide_eq_true q3]; simp -implicitDefEqProofs (disch := omega) only [go_sem, D, q, s, y, m, o, p, u, B]
   refine Jab (λ q4 => ?_) (λ q4 => ?_)
   . rw [decide_eq_false (by omega), L0e] at d
     subst d; simp -implicitDefEqProofs (disch := omega) only [go_sem, D, q4, q, s, y, m, o, p, u, B, results36]
   rw [decide_eq_true (by omega), L0h] at d
   simp -implicitDefEqProofs (disch := omega) only [go_sem, D, q, s, y, m, o, p, u, B]
   refine Jad (hops.length - (i + 1)) (by omega) ⟨i + 1, (P, Q), by omega, d, ?_⟩
   simp -implicitDefEqProofs (disch := omega) only [go_sem, D, q, s, y, m, o, p, u, B]; try rfl
 obtain rfl : i = hops.length := by omega
 rw [L0X, JgY, L0h] at d; simp -implicitDefEqProofs (disch := omega) only [go_sem, q, s, y, m, o, p, u, B]; clear y m o p B F hi
 have K : z = Jfz hops 0 (legs.drop 0) := d
 refine Jag (λ n E J => ∃ (i : Nat), i + n = legs.length /\ z = Jfz hops i (legs.drop i) /\ E 1 = .ptr 77594640 13 0 0 /\ E 4 = .mp ((mI N).map entS) /\ E 113 = LGS legs /\ E 114 = I legs.length /\ E 115 = I i /\
  J 77594640 = some ⟨41, 13, [.agg [HPS hops, LGS legs, CKS cks, TFS tfs, SL offs, Str L, I pc, I pn, Str pr, Str ps, ITS pl, Str G, SLs ups]]⟩) legs.length ⟨0, by omega, K, ?_⟩ ?_
 . simp -implicitDefEqProofs (disch := omega) only [go_sem, q, s, u]; try rfl
 clear d K q s u E J n
 rintro n E J ⟨i, hi, d, q, s, f, j, k, u⟩
 simp -implicitDefEqProofs (disch := omega) only [go_sem, q, s, f, j, k, u]
 refine Jab (λ F => ?_) (λ F => ?_)
 . have H : i < legs.length := by omega
   have aa : i + 1 < hops.length := by omega
   rw [Ja6 legs i H, Jfz, L1j] at d; have c3 := JiD (gd legs i); generalize w : gd legs i = l at *; generalize legF l = b at *; obtain ⟨lf, lt, lg, lk⟩ := l
   simp only at *
   simp -implicitDefEqProofs (disch := omega) only [go_sem, w, q, s, f, j, k, u]
   refine Jaa c3 ?_
   cases b with
   | false =>
    rw [L0e] at d; subst d; simp -implicitDefEqProofs (disch := omega) only [go_sem, w, q, s, f, j, k, u, results36]
   | true =>
   rw [L0h] at d
   have A : ((i : Int) + 1).toNat = i + 1 := by omega
   simp -implicitDefEqProofs (disch := omega) only [go_sem, w, q, s, f, j, k, u, A]
   refine Jab (λ M => ?_) (λ M => ?_)
   . rw [decide_eq_false (by omega), L0e] at d
     subst d; simp -implicitDefEqProofs (disch := omega) only [go_sem, w, M, q, s, f, j, k, u, A, results36]
   simp -implicitDefEqProofs (disch := omega) only [go_sem, w, q, s, f, j, k, u, A]
   refine Jab (λ O => ?_) (λ O => ?_)
   . rw [decide_eq_false (by omega), L0e] at d
     subst d; simp -implicitDefEqProofs (disch := omega) only [go_sem, w, O, q, s, f, j, k, u, A, results36]
   rw [decide_eq_true (by omega), L0h] at d
   simp -implicitDefEqProofs (disch := omega) only [go_sem, w, q, s, f, j, k, u, A]
   refine Jad (legs.length - (i + 1)) (by omega) ⟨i + 1, by omega, d, ?_⟩
   simp -implicitDefEqProofs (disch := omega) only [go_sem, w, q, s, f, j, k, u, A]; try rfl
 obtain rfl : i = legs.length := by omega
 rw [L0X, Jfz] at d; subst d; simp -implicitDefEqProofs (disch := omega) only [go_sem, q, s, f, j, k, u, results36]
theorem Jvf (t : Tp) (b : t.ok) (h : Jef t = true) : Ev prog 36 [TPP t] (.tup [.pt (TRP t) 0, I 0]) := by
 have := JsB t b
 rw [h] at this
 exact Jed (r := .tup [.nptr 167 14 [TRP t], I 0]) this _
theorem JaO {t : Tp} : Jef t = true ↔ Jcz t.key t.part = true /\ ((1 <= t.hops.length /\ t.hops.length <= 12) /\ t.legs.length = t.hops.length - 1 /\ t.cks.length = 8 /\ t.tfs.length = 8 /\ t.offs.length = 8 /\ t.ups.length <= 30) /\
 t.cks.all Jb3 = true /\ t.tfs.all JbF = true /\ t.offs.all Jdz = true /\ JgY t.ups.length (-1, 0) t.hops = true /\ Jfz t.hops 0 t.legs = true := by
 unfold Jef; simp only [L00, decide_eq_true_iff]
theorem Jjh {t : Tp} (h : Jef t = true) {i : Nat} (hi : i < t.hops.length) : (0 <= (gd t.hops i).1 /\ (gd t.hops i).1 <= 7) /\ (0 <= (gd t.hops i).2 /\ (gd t.hops i).2 <= 29) /\ (gd t.hops i).2 < t.ups.length :=
 JpF t.ups.length t.hops (-1, 0) (JaO.1 h).2.2.2.2.2.1 i hi
theorem Jji {t : Tp} (h : Jef t = true) {i : Nat} (hi : i < t.legs.length) : legF (gd t.legs i) = true /\ (gd t.legs i).f = (gd t.hops i).1 /\ (gd t.legs i).t = (gd t.hops (i + 1)).1 := by
 have := Jp2 t.hops t.legs 0 (JaO.1 h).2.2.2.2.2.2 i hi
 rw [L0q] at this; exact this
set_option maxHeartbeats 2000000 in
theorem JsJ (t : Tp) (h : Jef t = true) (i : Nat) (hi : i < t.legs.length) : Ev prog 72 [.pt (TRP t) 0, I i] (I (payF t i)) := by
 have B := (JaO.1 h).2.1
 have s := λ i => Jjh h (i := i)
 have c : payF t i = if i = 0 then (gd t.hops 0).1
  else if (gd t.hops (i - 1)).2 + 1 < t.ups.length /\ JcA (evF t.key t.part) (gd t.ups ((gd t.hops (i - 1)).2 + 1).toNat) t.call = 1 then (gd t.hops (i - 1)).1
  else (gd t.hops i).1 := rfl
 have l := Jmi (evF t.key t.part) (gd t.ups ((gd t.hops (i - 1)).2 + 1).toNat) t.call
 obtain ⟨N, o⟩ := JjH (evF t.key t.part)
 simp only [TRP] at *; rw [o] at l ⊢; generalize payF t i = P at *; generalize JcA (evF t.key t.part) (gd t.ups ((gd t.hops (i - 1)).2 + 1).toNat) t.call = w at *
 obtain ⟨hops, legs, cks, tfs, offs, z, ⟨⟨D, F, G, H⟩, E⟩, m, ups⟩ := t
 simp only at *
 clear o h
 refine EV func72 ?_
 simp -implicitDefEqProofs (disch := omega) only [go_sem, ntmps72]
 refine Jab (λ p => ?_) (λ p => ?_)
 . obtain rfl : i = 0 := by omega
   rw [if_pos rfl] at c
   have q : 0 < hops.length := by omega
   simp -implicitDefEqProofs (disch := omega) only [go_sem, c, results72]; try rfl
 rw [if_neg (by omega)] at c
 have d : ((i : Int) - 1).toNat = i - 1 := by omega
 have k : i - 1 < hops.length := by omega
 have u : i < hops.length := by omega
 obtain ⟨J, K, L⟩ := s _ k
 generalize f : gd hops i = y at *; generalize b : gd hops (i - 1) = x at *; obtain ⟨M, A⟩ := x; obtain ⟨O, Q⟩ := y
 simp only at *
 simp -implicitDefEqProofs (disch := omega) only [go_sem, d, f, b]
 refine Jab (λ j => ?_) (λ j => ?_)
 . have C : (A + 1).toNat < ups.length := by omega
   simp -implicitDefEqProofs (disch := omega) only [go_sem, d, f, b]
   refine Jaa l ?_
   simp -implicitDefEqProofs (disch := omega) only [go_sem, d, f, b]
   refine Jab (λ g => ?_) (λ g => ?_)
   . rw [if_pos ⟨j, g⟩] at c; subst c; simp -implicitDefEqProofs (disch := omega) only [go_sem, d, f, b, g, results72]
   . rw [if_neg (λ h => g h.2)] at c
     subst c; simp -implicitDefEqProofs (disch := omega) only [go_sem, d, f, b, g, results72]
 . rw [if_neg (λ h => j h.1)] at c
   subst c; simp -implicitDefEqProofs (disch := omega) only [go_sem, d, f, b, results72]
theorem JrO (t : Tp) : Ev prog 38 [.pt (TRP t) 0] (.clo 71 [.pt (.pt (TRP t) 0) 0]) := by
 refine Jed (r := .clo 71 [.nptr 114 1 [.pt (TRP t) 0]]) ?_ _
 refine EV func38 ?_
 simp -implicitDefEqProofs (disch := omega) only [go_sem, ntmps38, results38]
abbrev BLP (b : Bl) : AV := .agg [I b.p, I b.q, I b.f, I b.t, I b.a]
abbrev BLS (l : List Bl) : AV := .sl 5 (l.map BLP)
abbrev BW (b : Bl) : List AV := [BLP b]
section
variable (p : Nat -> Bool) (l : List Bl)
@[go_sem] theorem Jwm : AV.namesL p (l.map BLP) = false := Jaj p l BLP λ _ => rfl
@[go_sem] theorem JxP : AV.flatL (l.map BLP) = true := JaR l BLP λ _ => rfl
@[go_sem] theorem Jw0 : Jbq 5 (l.map BLP) = true := Jaw 5 l BLP λ _ => ⟨rfl, rfl⟩
end
@[go_sem] theorem JvV (l : List Bl) (a b c d e : Int) : l.map BLP ++ [.agg [.v (.int .i64 a), .v (.int .i64 b), .v (.int .i64 c), .v (.int .i64 d), .v (.int .i64 e)]] = (l ++ [(⟨a, b, c, d, e⟩ : Bl)]).map BLP := by simp
theorem Jg7 (p : Nat -> Bool) (l : List Bl) : AV.namesL p ((l.map BW).map .tup) = false := by
 induction l with
 | nil => rfl
 | cons q l b =>
  show AV.namesL p (.tup (BW q) :: (l.map BW).map .tup) = false
  simp only [go_sem, b]
  first | done | simp
attribute [go_sem] Jg7
@[go_sem] theorem Jwn (p : Nat -> Bool) (l : List Bl) : AV.namesL p (l.map (AV.tup ∘ BW)) = false := by
 rw [<- L19]; exact Jg7 p l
abbrev TRQ (t : Tp) (N : List (ByteArray × Nat)) : AV := .agg [HPS t.hops, LGS t.legs, CKS t.cks, TFS t.tfs, SL t.offs, Str t.key, I t.part.h.c, I t.part.h.n, Str t.part.h.r, Str t.part.h.s, ITS t.part.l, Str t.call, SLs t.ups, .mp ((mI N).map entS)]
instance plainZ (P : Program) (f N l : Nat) (b : List Nat) : Plain (spZ P f N l b) := ⟨Ji8 P f N l b⟩
set_option maxHeartbeats 8000000 in
theorem JoT (t : Tp) (G : t.ok) (h : Jef t = true) : SOK prog 71 [.pt (.pt (TRP t) 0) 0] (stO []) ((Jbj t).map BW) := by
 have hl := (JaO.1 h).2.1
 obtain ⟨_, _, M, O, C, _, _⟩ := JaO.1 h
 have s := λ i => Jji h (i := i)
 have j := λ i F => JsJ t h i F
 have K := Jb7 t
 have J := λ i F => Jjv t (i := i) F
 have q : ∀ i, JrM t i = ⟨payF t i, (gd t.legs i).t, (Jde t (gd t.legs i)).1.1, (Jde t (gd t.legs i)).1.2, amtF (gd t.tfs (gd t.legs i).t.toNat) (gd t.offs (gd t.legs i).t.toNat) (Jde t (gd t.legs i)).1.1 (Jde t (gd t.legs i)).1.2⟩ := λ i => rfl
 have k : ∀ l : Lg, legF l = true -> Ev prog 73 [.mp ((evM (evF t.key t.part)).map entS), CKP (gd t.cks l.f.toNat), CKP (gd t.cks l.t.toNat), LGP l] (biV (Jde t l)) := λ l B => by
  obtain ⟨⟨Z, f2, f3⟩, _⟩ := JbS.1 B
  exact JoS (evF t.key t.part) _ _ l B (G.rds _ (Jan _ _ (by omega))) (G.rds _ (Jan _ _ (by omega)))
 have D : ∀ l : Lg, Je9 (Jde t l).1.1 (Jde t l).1.2 = true := λ l => (JoR _ _ _ l).1
 have u := G.good
 have z : ∀ n ∈ t.offs, Jdz n = true := L0d.1 C
 obtain ⟨N, R⟩ := JjH (evF t.key t.part)
 simp only [TRP] at *; rw [R] at j k ⊢
 have j : ∀ i, i < t.legs.length -> Ev prog 72 [.pt (TRQ t N) 0, I i] (I (payF t i)) := j
 show SOK _ _ [.pt (.pt (TRQ t N) 0) 0] _ _
 generalize Jbj t = L at *; generalize Jde t = S at *; generalize JrM t = BF at *; generalize payF t = T at *; clear R h G M O C
 refine JqY [4, 5] func71 rfl (by kernel_rfl) mo (nb rfl) rfl ?_ rfl λ y => ?_
 . exact Jg7 allB _
 have h0 : ((L.map BW).map AV.tup) = ((L.drop 0).map BW).map AV.tup := rfl
 simp -implicitDefEqProofs (disch := omega) only [go_sem, ntmps71]; rw [h0]
 refine Jag (λ n E σ => ∃ (i : Nat), i + n = t.legs.length /\ E 0 = .yld y /\ E 1 = .pt (.pt (TRQ t N) 0) 0 /\ E 10 = LGS t.legs /\ E 11 = I t.legs.length /\ E 12 = I i /\ E 81 = .tup (((L.drop i).map BW).map .tup)) t.legs.length ⟨0, by omega, ?_⟩ ?_
 . simp -implicitDefEqProofs (disch := omega) only [go_sem]; try rfl
 rintro n E σ ⟨i, F, o, p, c, d, g, b⟩
 simp -implicitDefEqProofs (disch := omega) only [go_sem, o, p, c, d, g, b]
 refine Jab (λ hc => ?_) (λ hc => ?_)
 . have w : i < t.legs.length := by omega
   obtain ⟨H, g2, g3⟩ := s i w
   have U := j i w; have V := k (gd t.legs i) H; have X := D (gd t.legs i); have Q := q i
   obtain ⟨⟨Z, f2, f3⟩, _⟩ := JbS.1 H
   rw [Ja6 L i (by omega), J i w, Q] at b
   have Y := JoC (gd t.tfs (gd t.legs i).t.toNat) (gd t.offs (gd t.legs i).t.toNat) _ _ (u _ (Jan _ _ (by omega))) (z _ (Jan _ _ (by omega))) X
   have b1 : (gd t.legs i).f.toNat < t.cks.length := by omega
   have b2 : (gd t.legs i).t.toNat < t.cks.length := by omega
   have b3 : (gd t.legs i).t.toNat < t.tfs.length := by omega
   have b4 : (gd t.legs i).t.toNat < t.offs.length := by omega
   clear Q q k j D s H g2 g3; generalize hW : S (gd t.legs i) = W at *; generalize T i = P at *; generalize hA : amtF (gd t.tfs (gd t.legs i).t.toNat) (gd t.offs (gd t.legs i).t.toNat) W.1.1 W.1.2 = A at *; generalize m : gd t.legs i = l at *; obtain ⟨lf, lt, lg, lk⟩ := l
   obtain ⟨⟨w1, w2⟩, w3⟩ := W
   simp only at *
   clear hW hA; simp -implicitDefEqProofs (disch := omega) only [go_sem, o, p, c, d, g, b, m]
   refine Jaa U ?_
   simp -implicitDefEqProofs (disch := omega) only [go_sem, o, p, c, d, g, b, m]
   refine JlG Plain.mono ?_
   simp -implicitDefEqProofs (disch := omega) only [go_sem, o, p, c, d, g, b, m, false_and, and_self]
   refine Jaa V ?_
   simp -implicitDefEqProofs (disch := omega) only [go_sem, o, p, c, d, g, b, m, false_and, and_self]
   refine JlG Plain.mono ?_
   simp -implicitDefEqProofs (disch := omega) only [go_sem, o, p, c, d, g, b, m, false_and, and_self]
   refine Jaa Y ?_
   simp -implicitDefEqProofs (disch := omega) only [go_sem, o, p, c, d, g, b, m, false_and, and_self]
   refine ⟨?_, .inr trivial⟩
   refine Jad (t.legs.length - (i + 1)) (by omega) ⟨i + 1, by omega, ?_⟩
   simp -implicitDefEqProofs (disch := omega) only [go_sem, o, p, c, d, g, b]; try rfl
 . obtain rfl : i = t.legs.length := by omega
   rw [<- K, L0X] at b
   have b : E 81 = .tup [] := b
   simp -implicitDefEqProofs (disch := omega) only [go_sem, b]
   exact .inl trivial
set_option maxHeartbeats 2000000 in
theorem Jjr (X : AV) (L : List Bl) (z : ∀ p, AV.namesL p [.pt X 0] = false) (H : SOK prog 71 [.pt X 0] (stO []) (L.map BW)) (F : L.length <= 1000) :
 Ev prog 70 [.v (.slice none 0 0), .clo 71 [.pt X 0]] (BLS L) := by
 refine EW [1, 4] func70 ?_
 simp -implicitDefEqProofs (disch := omega) only [go_sem, ntmps70, z]
 refine Jbp 148897824 148897825 0 0 58 5 (k := ⟨52, 1, [.v (.slice none 0 0)]⟩) (el := .v (.slice none 0 0)) (by simp -implicitDefEqProofs (disch := omega) only [go_sem]) (by decide) rfl rfl (by simp) (by simp -implicitDefEqProofs (disch := omega) only [go_sem]) rfl ?_
 refine Jel Plain.mono ?_
 simp -implicitDefEqProofs (disch := omega) only [go_sem, z]
 refine Jbs ?_
 refine JcG [] [148897824] 9306212 (L.map BW)
  (λ M h => ∃ (o r : List Bl) (x : Nat), L = o ++ r /\ M = r.map BW /\ x = 148897825 /\ h 148897824 = some ⟨52, 1, [.own x 5 0 o.length]⟩ /\ h x = some ⟨58, 5, o.map BLP⟩)
  (g := 71) (caps := [.pt X 0]) ?_ ?_ ?_ ?_ ?_ ?_ ?_ ?_
 . simp -implicitDefEqProofs (disch := omega) only [go_sem]
 . rw [Jkh]; exact H
 . intro x j
   obtain ⟨y, _, rfl⟩ := L04.1 j
   rfl
 . exact z _
 . simp -implicitDefEqProofs (disch := omega) only [go_sem]
 . refine ⟨[], L, _, rfl, rfl, rfl, ?_⟩
   simp -implicitDefEqProofs (disch := omega) only [go_sem, z]
   try exact ⟨rfl, rfl⟩
 . rintro w d y t B ⟨o, r, x, i, c, j, l, m⟩
   have s : w 2 = .ptr 148897824 1 0 0 := by rw [d]; simp -implicitDefEqProofs (disch := omega) only [go_sem]
   clear d
   obtain ⟨q, f, rfl, rfl, rfl⟩ : ∃ q f, r = q :: f /\ y = BW q /\ t = f.map BW := by
    cases r with
    | nil => cases c
    | cons q f => simp only [L0j, List.cons.injEq] at c; exact ⟨q, f, rfl, c.1, c.2⟩
   have G : o.length + 1 <= 1000 := by rw [i, L0a, L0c] at F; omega
   generalize C : rQ _ _ w _ = R
   have D : ∀ (E : Env) (h : Jac) (u : Nat), u = 148897825 -> h 148897824 = some ⟨52, 1, [.own u 5 0 (o.length + 1)]⟩ -> h u = some ⟨58, 5, (o ++ [q]).map BLP⟩ -> R .normal E h := by
    intro E h u I J K
    rw [<- C]
    refine ⟨inL [], λ _ _ => rfl, ?_⟩
    rw [Jcm]
    exact ⟨o ++ [q], f, u, by rw [i, L0J]; rfl, rfl, I, by rw [L0a]; exact J, K⟩
   clear C i; obtain ⟨N, O, P, Q, S⟩ := q
   have b : o.take o.length = o := L05
   have A := j; subst j; simp -implicitDefEqProofs (disch := omega) only [go_sem, s, l, m, b]
   refine D _ _ _ A ?_ ?_
   . simp -implicitDefEqProofs (disch := omega) only [go_sem, l, b]
   . simp -implicitDefEqProofs (disch := omega) only [go_sem, m, b]
 . rintro w d B ⟨o, r, x, i, c, j, l, m⟩
   have s : w 2 = .ptr 148897824 1 0 0 := by rw [d]; simp -implicitDefEqProofs (disch := omega) only [go_sem]
   clear d
   obtain rfl : r = [] := by
    cases r with
    | nil => rfl
    | cons q f => cases c
   rw [L0C] at i; subst i
   have b : L.take L.length = L := L05
   subst j; simp -implicitDefEqProofs (disch := omega) only [go_sem, s, l, m]
   refine JaW Plain.mono [148897824, 148897825] ?_
   simp -implicitDefEqProofs (disch := omega) only [go_sem, s, l, m, b, L0b]; simp -implicitDefEqProofs (disch := omega) only [go_sem, s, l, m, b, L0b, results70]
theorem Jnp (X : AV) (L : List Bl) (d : ∀ p, AV.namesL p [.pt X 0] = false) (b : ∀ σ, [AV.pt X 0].map (res σ) = [.pt X 0]) (g : SOK prog 71 [.pt X 0] (stO []) (L.map BW)) (f : L.length <= 1000) :
 Ev prog 37 [.clo 71 [.pt X 0]] (BLS L) := by
 have c := Jjr X L d g f
 refine EV func37 ?_
 simp -implicitDefEqProofs (disch := omega) only [go_sem, ntmps37, d, b]
 refine Jaa c ?_
 simp -implicitDefEqProofs (disch := omega) only [go_sem, results37]
theorem Jjw (t : Tp) (d : t.ok) (h : Jef t = true) : Ev prog 12 [TPP t] (.tup [BLS (Jbj t), I 0]) := by
 have f := Jvf t d h; have g := JrO t; have c := JoT t d h
 have b : (Jbj t).length <= 1000 := by
  have := (JaO.1 h).2.1
  rw [Jb7]; omega
 obtain ⟨N, j⟩ := JjH (evF t.key t.part)
 simp only [TRP] at *; rw [j] at f g c; generalize Jbj t = L at *
 obtain ⟨hops, legs, cks, tfs, offs, l, ⟨⟨m, q, s, u⟩, o⟩, i, ups⟩ := t
 simp only at *
 have k := Jnp _ L (λ p => by simp only [go_sem]) (λ w => by simp only [go_sem]) c b
 clear c j h d
 refine EV func12 ?_
 simp -implicitDefEqProofs (disch := omega) only [go_sem, ntmps12]
 refine Jaa f ?_
 simp -implicitDefEqProofs (disch := omega) only [go_sem]
 refine Jaa g ?_
 simp -implicitDefEqProofs (disch := omega) only [go_sem]
 refine Jaa k ?_
 simp -implicitDefEqProofs (disch := omega) only [go_sem, results12]
theorem JBc (p : Pt) : AV.dn (shV (some p)) = false := by
 have h : AV.dnL (p.l.map ITP) = false := Jci ITP (λ x => by simp only [AV.dn, AV.dnL, Jci _ (λ x => AV.dn.eq_2 _), L13]) p.l
 simp [AV.dn, AV.dnL, h]
abbrev TPZ (hops : List (Int × Int)) (legs : List Lg) (cks : List Ck) (tfs : List Tf) (offs : List Int) (c b : ByteArray) (ups : List ByteArray) : AV :=
 .agg [HPS hops, LGS legs, CKS cks, TFS tfs, SL offs, Str c, I 0, I 0, .v (.string ByteArray.empty), .v (.string ByteArray.empty), .v (.slice none 0 0), Str b, SLs ups]
def witL (b : ByteArray) (ups : List ByteArray) (legs : List Lg) (w : List Int) (i : Nat) : List ByteArray := (w.take i).map (witE b ups legs)
theorem Jth (b : ByteArray) (ups : List ByteArray) (legs : List Lg) (w : List Int) (i : Nat) (h : i <= w.length) : (witL b ups legs w i).length = i := by
 unfold witL; rw [L0b, L01]; omega
theorem Jrq (b : ByteArray) (ups : List ByteArray) (legs : List Lg) (w : List Int) (i : Nat) (h : i < w.length) : witL b ups legs w (i + 1) = witL b ups legs w i ++ [witE b ups legs (gd w i)] := by
 unfold witL; rw [Jy6 w i h, L1b]; rfl
def wiI (T : AV) (w : List Int) (W : List ByteArray) (L : List Int) (i : Nat) (E : Env) (σ : Jac) : Prop :=
 E 1 = SL w /\ E 2 = .ptr 65011744 13 0 0 /\ E 4 = .ptr 65011776 5 0 0 /\ E 5 = .ptr 65011792 2 0 0 /\ E 6 = .own 65011808 1 0 L.length /\ E 7 = I i /\
 σ 65011744 = some ⟨41, 13, [T]⟩ /\ σ 65011776 = some ⟨38, 5, [zP]⟩ /\ σ 65011792 = some ⟨144, 2, [.agg [I 0, .own 65011793 1 0 W.length]]⟩ /\
 σ 65011793 = some ⟨9, 1, W.map Str⟩ /\ σ 65011808 = some ⟨3, 1, L.map I⟩
set_option maxHeartbeats 4000000 in
theorem Jom (hops : List (Int × Int)) (legs : List Lg) (cks : List Ck) (tfs : List Tf) (offs : List Int) (call : ByteArray) (n : Nat) (w : List Int) (hw : ∀ x ∈ w, R64 x) (hwl : w.length <= 9223372036854775807) (hn : 0 < n) (hn2 : n <= 1000) (hll : legs.length <= 1000) (hleg : ∀ i, i < legs.length -> legF (gd legs i) = true) :
 Ev prog 30 [TPZ hops legs cks tfs offs (keyS 0) Ja1 (upsN n), SL w] (PTP (witP Ja1 (upsN n) legs w)) := by
 have hsh := Jjl n legs w; have hul := Jds n; have hl12 := JgB w
 have d2 := JsU (keyS 0) (witR Ja1 (upsN n) legs w) ((min w.length 12 : Nat) : Int) (witN w (min w.length 12)) (by simp only [witR, L0b, L01]; omega) (by have := hl12 (min w.length 12); omega) (λ x hx => by
  have := JlX w _ x hx
  constructor <;> omega)
 rw [hsh] at d2
 have hWL : witR Ja1 (upsN n) legs w = ⟨0, witL Ja1 (upsN n) legs w (min w.length 12)⟩ := by
  unfold witR witL
  congr 2
  by_cases h : w.length <= 12
  . rw [L03 h, show min w.length 12 = w.length by omega, L05]
  . rw [show min w.length 12 = 12 by omega]
 rw [hWL] at d2; have hws := Jrq Ja1 (upsN n) legs w; have hwl2 := Jth Ja1 (upsN n) legs w
 have hnl : ∀ i, (witN w i).length <= i := JgB w
 have hns : ∀ i, witN w (i + 1) = witN w i ++ if Jaf ((gd w i).tdiv 128) 8 ≠ 7 then [(i : Int)] else [] := λ i => rfl
 have hE : ∀ x, witE Ja1 (upsN n) legs x = if Jaf x 3 = 1 then gd (upsN n) (Jaf (x.tdiv 3) (upsN n).length).toNat else if Jaf x 3 = 2 /\ legs ≠ [] then recF (gd legs (Jaf (x.tdiv 6) legs.length).toNat) (1 + Jaf (x.tdiv 3) 2) else Ja1 := λ x => rfl
 have hw0 : witL Ja1 (upsN n) legs w 0 = [] := rfl
 have hn0 : witN w 0 = [] := rfl
 have k1 := Jmt; rw [<- JpY] at k1; clear hsh hWL hl12; generalize witP Ja1 (upsN n) legs w = PT at *; generalize witL Ja1 (upsN n) legs w = W at *; generalize witN w = L at *; generalize witE Ja1 (upsN n) legs = WE at *; generalize upsN n = ups at *; generalize keyS 0 = KEY at *
 obtain ⟨⟨pc, pn, pr, ps⟩, pl⟩ := PT
 refine EW [2, 15] func30 ?_
 simp -implicitDefEqProofs (disch := omega) only [go_sem, ntmps30]
 refine Jbp 65011792 65011793 0 1 9 1 (k := ⟨144, 2, [.agg [I 0, .v (.slice none 0 0)]]⟩) (el := .agg [I 0, .v (.slice none 0 0)]) (by simp -implicitDefEqProofs (disch := omega) only [go_sem]) (by decide) rfl rfl (by simp) (by simp -implicitDefEqProofs (disch := omega) only [go_sem]) rfl ?_
 refine Jel Plain.mono ?_
 simp -implicitDefEqProofs (disch := omega) only [go_sem]
 refine Jj7 0 (λ E σ => wiI (TPZ hops legs cks tfs offs KEY Ja1 ups) w (W (min w.length 12)) (L (min w.length 12)) (min w.length 12) E σ) ?_ ?_
 rotate_left
 . rintro E σ ⟨e1, e2, e4, e5, e6, e7, m2, m4, m5, mW, mL⟩
   have hWi := hwl2 (min w.length 12) (by omega)
   clear hws hns hE hwl2 hnl; generalize W (min w.length 12) = Wm at *; generalize L (min w.length 12) = Lm at *
   have q1 : Wm.take (min w.length 12) = Wm := L03 (by omega)
   have q2 : Lm.take Lm.length = Lm := L05
   simp -implicitDefEqProofs (disch := omega) only [go_sem, e1, e2, e4, e5, e6, e7, m2, m4, m5, mW, mL]
   refine Jld [65011793, 65011808] ?_
   simp -implicitDefEqProofs (disch := omega) only [go_sem, e1, e2, e4, e5, e6, e7, m2, m4, m5, mW, mL, q1, q2, hWi, L0b, false_and, and_self]
   refine Jaa k1 ?_
   simp -implicitDefEqProofs (disch := omega) only [go_sem, e1, e2, e4, e5, e6, e7, m2, m4, m5, mW, mL, q1, q2, hWi, L0b, false_and, and_self]
   refine Jaa d2 ?_ (h4 := .inr (JBc ⟨⟨pc, pn, pr, ps⟩, pl⟩))
   simp -implicitDefEqProofs (disch := omega) only [go_sem, e1, e2, e4, e5, e6, e7, m2, m4, m5, mW, mL, q1, q2, hWi, L0b, false_and, and_self, results30]
 refine Jag (λ k E σ => ∃ i : Nat, i + k = 12 /\ i <= w.length /\ wiI (TPZ hops legs cks tfs offs KEY Ja1 ups) w (W i) (L i) i E σ) 12 ⟨0, by omega, by omega, ?_⟩ ?_
 . simp -implicitDefEqProofs (disch := omega) only [go_sem, wiI, hw0, hn0, false_and]; try rfl
 rintro k E σ ⟨i, hk, hiw, e1, e2, e4, e5, e6, e7, m2, m4, m5, mW, mL⟩
 simp -implicitDefEqProofs (disch := omega) only [go_sem, e1, e2, e4, e5, e6, e7, m2, m4, m5, mW, mL]
 refine Jab (λ hc => ?_) (λ hc => ?_)
 rotate_left
 . obtain rfl : i = min w.length 12 := by omega
   simp -implicitDefEqProofs (disch := omega) only [go_sem, wiI, e1, e2, e4, e5, e6, e7, m2, m4, m5, mW, mL]; try rfl
 simp -implicitDefEqProofs (disch := omega) only [go_sem, e1, e2, e4, e5, e6, e7, m2, m4, m5, mW, mL]
 refine Jab (λ hc2 => ?_) (λ hc2 => ?_)
 rotate_left
 . obtain rfl : i = min w.length 12 := by omega
   simp -implicitDefEqProofs (disch := omega) only [go_sem, wiI, e1, e2, e4, e5, e6, e7, m2, m4, m5, mW, mL]; try rfl
 have hi12 : i < 12 := by omega
 have hil : i < w.length := by omega
 obtain ⟨r1, r2⟩ := hw _ (Jan w i hil)
 have hs1 := hws i hil; have hs2 := hns i; have hEi := hE (gd w i); have hWi := hwl2 i hiw; have hLi := hnl i; clear d2 hE hws hwl2 hnl hns hc hc2
 have c1 := JaG (gd w i) 3 ⟨r1, r2⟩ (by omega)
 have p1 := Jai (c := gd w i) (n := 3) (by omega)
 have rd3 := Jgm (m := gd w i) (d := 3) (by omega) ⟨r1, r2⟩
 have rd6 := Jgm (m := gd w i) (d := 6) (by omega) ⟨r1, r2⟩
 have rd128 := Jgm (m := gd w i) (d := 128) (by omega) ⟨r1, r2⟩
 have c2 := JaG ((gd w i).tdiv 3) ups.length rd3 (by omega)
 have p2 := Jai (c := (gd w i).tdiv 3) (n := ups.length) (by omega)
 have c4 := JaG ((gd w i).tdiv 3) 2 rd3 (by omega)
 have p4 := Jai (c := (gd w i).tdiv 3) (n := 2) (by omega)
 have c5 := JaG ((gd w i).tdiv 128) 8 rd128 (by omega)
 generalize hWs : W (i + 1) = W' at *; generalize hLs : L (i + 1) = L' at *; generalize W i = Wi at *; generalize L i = Li at *
 have q1 : Wi.take Wi.length = Wi := L05
 have q2 : Li.take Li.length = Li := L05
 generalize WE (gd w i) = X at *; generalize hy3 : (gd w i).tdiv 3 = y3 at *; generalize hy6 : (gd w i).tdiv 6 = y6 at *; generalize hy128 : (gd w i).tdiv 128 = y128 at *; obtain ⟨u3, v3⟩ := rd3; obtain ⟨u6, v6⟩ := rd6; obtain ⟨u128, v128⟩ := rd128; generalize Jaf (gd w i) 3 = p at *; generalize Jaf y3 (ups.length : Int) = j at *; generalize Jaf y3 2 = e at *; generalize Jaf y128 8 = b at *; simp -implicitDefEqProofs (disch := omega) only [go_sem, e1, e2, e4, e5, e6, e7, m2, m4, m5, mW, mL]
 refine Jaa c1 ?_
 simp -implicitDefEqProofs (disch := omega) only [go_sem, e1, e2, e4, e5, e6, e7, m2, m4, m5, mW, mL]
 refine JbJ (λ E σ => E 8 = Str X /\ wiI (TPZ hops legs cks tfs offs KEY Ja1 ups) w Wi Li i E σ) (λ h3 => ?_) (λ h3 => ?_) ?_
 . rw [if_pos h3] at hEi
   have hjl : j.toNat < ups.length := by omega
   simp -implicitDefEqProofs (disch := omega) only [go_sem, e1, e2, e4, e5, e6, e7, m2, m4, m5, mW, mL, hy3]
   refine Jaa c2 ?_
   simp -implicitDefEqProofs (disch := omega) only [go_sem, wiI, e1, e2, e4, e5, e6, e7, m2, m4, m5, mW, mL, hy3, hEi, false_and]; try rfl
 . rw [if_neg h3] at hEi; simp -implicitDefEqProofs (disch := omega) only [go_sem, e1, e2, e4, e5, e6, e7, m2, m4, m5, mW, mL]
   refine Jab (λ h4 => ?_) (λ h4 => ?_)
   rotate_left
   . rw [if_neg (λ h => h4 h.1)] at hEi
     simp -implicitDefEqProofs (disch := omega) only [go_sem, wiI, e1, e2, e4, e5, e6, e7, m2, m4, m5, mW, mL, hEi, false_and]; try rfl
   simp -implicitDefEqProofs (disch := omega) only [go_sem, e1, e2, e4, e5, e6, e7, m2, m4, m5, mW, mL]
   refine Jab (λ h5 => ?_) (λ h5 => ?_)
   rotate_left
   . have hnil : legs = [] := L0Y (by omega)
     rw [if_neg (λ h => h.2 hnil)] at hEi
     simp -implicitDefEqProofs (disch := omega) only [go_sem, wiI, e1, e2, e4, e5, e6, e7, m2, m4, m5, mW, mL, hEi, false_and]; try rfl
   have hne : legs ≠ [] := λ h => by rw [h] at h5; exact absurd h5 (by decide)
   rw [if_pos ⟨h4, hne⟩] at hEi
   have c3 := JaG y6 legs.length ⟨u6, v6⟩ (by omega)
   have p3 := Jai (c := y6) (n := legs.length) (by omega)
   generalize Jaf y6 (legs.length : Int) = v at *
   have hvl : v.toNat < legs.length := by omega
   have g1 := hleg v.toNat hvl; have c6 := Jvi (gd legs v.toNat) (1 + e)
   have hrv : recV (gd legs v.toNat) (1 + e) = .tup [Str (recF (gd legs v.toNat) (1 + e)), I 0] := if_pos ⟨g1, by omega⟩
   rw [hrv] at c6; clear hrv; generalize recF (gd legs v.toNat) (1 + e) = RF at *; generalize hlv : gd legs v.toNat = l at *; obtain ⟨lf, lt, lg, lk⟩ := l; simp -implicitDefEqProofs (disch := omega) only [go_sem, e1, e2, e4, e5, e6, e7, m2, m4, m5, mW, mL, hy3, hy6]
   refine Jaa c3 ?_
   simp -implicitDefEqProofs (disch := omega) only [go_sem, e1, e2, e4, e5, e6, e7, m2, m4, m5, mW, mL, hy3, hy6, hlv]
   refine Jaa c4 ?_
   simp -implicitDefEqProofs (disch := omega) only [go_sem, e1, e2, e4, e5, e6, e7, m2, m4, m5, mW, mL, hy3, hy6, hlv]
   refine Jaa c6 ?_
   simp -implicitDefEqProofs (disch := omega) only [go_sem, wiI, e1, e2, e4, e5, e6, e7, m2, m4, m5, mW, mL, hy3, hy6, hEi, hlv, false_and]; try rfl
 clear e1 e2 e4 e5 e6 e7 m2 m4 m5 mW mL E σ hEi
 rintro E σ ⟨e8, e1, e2, e4, e5, e6, e7, m2, m4, m5, mW, mL⟩
 simp -implicitDefEqProofs (disch := omega) only [go_sem, e1, e2, e4, e5, e6, e7, e8, m2, m4, m5, mW, mL, q1, hWi, hy128, false_and]
 refine Jaa c5 ?_
 simp -implicitDefEqProofs (disch := omega) only [go_sem, e1, e2, e4, e5, e6, e7, e8, m2, m4, m5, mW, mL, hy128, q1, hWi, false_and]
 refine Jab (λ h6 => ?_) (λ h6 => ?_)
 . rw [if_pos h6] at hs2; generalize hQ : Joy _ k = Q; simp -implicitDefEqProofs (disch := omega) only [go_sem, e1, e2, e4, e5, e6, e7, e8, m2, m4, m5, mW, mL, q1, q2, hWi, false_and]; rw [<- hQ]; clear hQ
   refine Jad (12 - (i + 1)) (by omega) ⟨i + 1, by omega, by omega, ?_⟩
   rw [hWs, hLs, hs1, hs2]; simp -implicitDefEqProofs (disch := omega) only [go_sem, wiI, e1, e2, e4, e5, e6, e7, e8, m2, m4, m5, mW, mL, q1, q2, hWi, L0a, L0c, L0w, false_and]; try simp
 . rw [if_neg h6, L0C] at hs2; simp -implicitDefEqProofs (disch := omega) only [go_sem, e1, e2, e4, e5, e6, e7, e8, m2, m4, m5, mW, mL, q1, q2, hWi, false_and]
   refine Jad (12 - (i + 1)) (by omega) ⟨i + 1, by omega, by omega, ?_⟩
   rw [hWs, hLs, hs1, hs2]; simp -implicitDefEqProofs (disch := omega) only [go_sem, wiI, e1, e2, e4, e5, e6, e7, e8, m2, m4, m5, mW, mL, q1, q2, hWi, L0a, L0c, L0w, false_and]; try simp
@[go_sem] theorem JvX (l : List (Int × Int)) (a b : Int) : l.map HPP ++ [.agg [.v (.int .i64 a), .v (.int .i64 b)]] = (l ++ [(a, b)]).map HPP := by simp
@[go_sem] theorem JvY (l : List Lg) (a b c d e f : Int) : l.map LGP ++ [.agg [.v (.int .i64 a), .v (.int .i64 b), .v (.int .i64 c), .v (.int .i64 d), .v (.int .i64 e), .v (.int .i64 f)]] = (l ++ [(⟨a, b, ⟨c, d⟩, ⟨e, f⟩⟩ : Lg)]).map LGP := by simp
@[go_sem] theorem JvW (l : List Ck) (c : Ck) : l.map CKP ++ [CKP c] = (l ++ [c]).map CKP := by simp
@[go_sem] theorem Jxv (l : List Tf) (c : Tf) : l.map TF ++ [TF c] = (l ++ [c]).map TF := by simp
theorem dnv (x : Value) : AV.dn (.v x) = false := AV.dn.eq_2 x
theorem JBb (l : List Int) : AV.dnL (l.map I) = false := Jci I (λ x => dnv _) l
theorem Jpk (c : Cr) : (CRP c).dn = false := by
 simp only [AV.dn, AV.dnL, JBb, Jci QT (λ q => by simp only [AV.dn, AV.dnL, L13]) c.at_, L13]
theorem JxE (c : Ck) : (CKP c).dn = false := by
 simp only [AV.dn, AV.dnL, Jci RDP (λ q => by simp only [AV.dn, AV.dnL, L13]) c.r, L13]
theorem JBf (c : Tf) : (TF c).dn = false := by
 simp only [AV.dn, AV.dnL, Jci TP (λ q => by simp only [AV.dn, AV.dnL, L13]) c.l, L13]
structure Nm.ok (x : Nm) : Prop where
 hops : ∀ h ∈ x.hops, R64 h.1 /\ R64 h.2
 hopsL : x.hops.length <= 9223372036854775807
 legs : ∀ q ∈ x.legs, T3ok q
 legsL : x.legs.length <= 9223372036854775807
 crs : ∀ c ∈ x.crs, c.ok
 crsL : x.crs.length <= 9223372036854775807
 bases : ∀ n ∈ x.bases, R64 n
 basesL : x.bases.length <= 9223372036854775807
 rates : ∀ q ∈ x.rates, Q4ok q
 ratesL : x.rates.length <= 9223372036854775807
 offs : ∀ n ∈ x.offs, R64 n
 offsL : x.offs.length <= 9223372036854775807
 wit : ∀ n ∈ x.wit, R64 n
 witL : x.wit.length <= 9223372036854775807
theorem Jk7 {x : Nm} (h : x.ok) (c : Nat) : (crsF x c).ok := by
 unfold crsF
 split
 . exact ⟨⟨by decide, by decide⟩, ⟨by decide, by decide⟩, λ r f => (by cases f), L15 _, λ q d => (by cases d), L15 _⟩
 . rename_i b
   exact h.crs _ (Jan _ _ (L1k _ (L1f.2 b)))
theorem Jqj {l : List Int} (h : ∀ n ∈ l, R64 n) (i : Nat) : R64 (numF l i) := by
 unfold numF
 split
 . exact ⟨by decide, by decide⟩
 . rename_i b
   exact h _ (Jan _ _ (L1k _ (L1f.2 b)))
def ckN (x : Nm) (i : Nat) : List Ck := (List.range i).map λ c => (crsF x c).clk
def tfN (x : Nm) (i : Nat) : List Tf := (List.range i).map λ c => tfQ (numF x.bases c) (x.rates.take (c % 4))
def ofN (x : Nm) (i : Nat) : List Int := (List.range i).map (offF x)
def lgN (x : Nm) (b : List (Int × Int)) (i : Nat) : List Lg := (List.range i).map (legM x b)
theorem JrU (x : Nm) (i : Nat) : ckN x (i + 1) = ckN x i ++ [(crsF x i).clk] := by simp [ckN, L1d]
theorem Js6 (x : Nm) (i : Nat) : tfN x (i + 1) = tfN x i ++ [tfQ (numF x.bases i) (x.rates.take (i % 4))] := by simp [tfN, L1d]
theorem Jsx (x : Nm) (i : Nat) : ofN x (i + 1) = ofN x i ++ [offF x i] := by simp [ofN, L1d]
theorem Jsm (x : Nm) (b : List (Int × Int)) (i : Nat) : lgN x b (i + 1) = lgN x b i ++ [legM x b i] := by simp [lgN, L1d]
theorem Jrl (i : Nat) : upsN (i + 1) = upsN i ++ [updS i] := by simp [upsN, L1d]
theorem Jun (x : Nm) (i : Nat) : (ckN x i).length = i := by simp [ckN]
theorem JvF (x : Nm) (i : Nat) : (tfN x i).length = i := by simp [tfN]
theorem Jvb (x : Nm) (i : Nat) : (ofN x i).length = i := by simp [ofN]
theorem Jp4 (x : Nm) (b : List (Int × Int)) (i : Nat) : (lgN x b i).length = i := by simp [lgN]
abbrev mdT (b : AV) (G : List Lg) (C : List Ck) (T : List Tf) (O : List Int) (U : List ByteArray) : AV :=
 .agg [b, .own 14680114 6 0 G.length, .own 14680115 2 0 C.length, .own 14680116 2 0 T.length, .own 14680117 1 0 O.length, Str (keyS 0), I 0, I 0, .v (.string ByteArray.empty), .v (.string ByteArray.empty), .v (.slice none 0 0), Str Ja1, .own 14680118 1 0 U.length]
abbrev zT : AV := .agg [.v (.slice none 0 0), .v (.slice none 0 0), .v (.slice none 0 0), .v (.slice none 0 0), .v (.slice none 0 0), .v (.string ByteArray.empty), I 0, I 0, .v (.string ByteArray.empty), .v (.string ByteArray.empty), .v (.slice none 0 0), .v (.string ByteArray.empty), .v (.slice none 0 0)]
def mdI (x : Nm) (b : AV) (G : List Lg) (C : List Ck) (T : List Tf) (O : List Int) (U : List ByteArray) (E : Env) (σ : Jac) : Prop :=
 E 1 = .ptr 14680080 7 0 0 /\ E 2 = .ptr 14680096 13 0 0 /\ E 3 = .ptr 14680112 13 0 0 /\ σ 14680080 = some ⟨28, 7, [NMP x]⟩ /\ σ 14680096 = some ⟨41, 13, [zT]⟩ /\
 σ 14680112 = some ⟨41, 13, [mdT b G C T O U]⟩ /\ σ 14680114 = some ⟨62, 6, G.map LGP⟩ /\ σ 14680115 = some ⟨93, 2, C.map CKP⟩ /\ σ 14680116 = some ⟨100, 2, T.map TF⟩ /\
 σ 14680117 = some ⟨3, 1, O.map I⟩ /\ σ 14680118 = some ⟨9, 1, U.map Str⟩
set_option maxHeartbeats 16000000 in
theorem Jlq (x : Nm) (hx : x.ok) : Ev prog 6 [NMP x] (TPP (JaE x)) := by
 have hfin : TPP (JaE x) = .agg [HPS (Jau x.hops), LGS (lgN x (Jau x.hops) ((Jau x.hops).length - 1)), CKS (ckN x 8), TFS (tfN x 8), SL (ofN x 8), Str (keyS 0), I (JaE x).part.h.c, I (JaE x).part.h.n, Str (JaE x).part.h.r, Str (JaE x).part.h.s, ITS (JaE x).part.l, Str Ja1, SLs (upsN ((JdJ x.hops).2 + 2).toNat)] := rfl
 have hHl := JdI x.hops; have hHi := JdX x.hops; have hLi := Jmu x.hops; have hlen1 := Jp4 x (Jau x.hops) ((Jau x.hops).length - 1)
 have cw := Jom (Jau x.hops) (lgN x (Jau x.hops) ((Jau x.hops).length - 1)) (ckN x 8) (tfN x 8) (ofN x 8) Ja1 ((JdJ x.hops).2 + 2).toNat x.wit hx.wit hx.witL (by omega) (by omega) (by omega) (λ i hi => by
  rw [hlen1] at hi
  have : gd (lgN x (Jau x.hops) ((Jau x.hops).length - 1)) i = legM x (Jau x.hops) i := JiI x (Jau x.hops) hi
  rw [this]; exact Jp1 x (by omega))
 have hwp : witP Ja1 (upsN ((JdJ x.hops).2 + 2).toNat) (lgN x (Jau x.hops) ((Jau x.hops).length - 1)) x.wit = (JaE x).part := rfl
 rw [hwp] at cw; rw [hfin]; clear hwp hfin; generalize (JaE x).part = PT at *
 obtain ⟨⟨pc, pn, pr, ps⟩, pl⟩ := PT
 simp only at *
 have k1 := Jmt; rw [<- JpY] at k1
 refine EW [2, 17, 18, 37] func6 ?_
 simp -implicitDefEqProofs (disch := omega) only [go_sem, ntmps6]
 refine Jaa k1 ?_
 simp -implicitDefEqProofs (disch := omega) only [go_sem]
 refine Jbp 14680112 14680113 0 0 104 2 (k := ⟨41, 13, [.agg [.v (.slice none 0 0), .v (.slice none 0 0), .v (.slice none 0 0), .v (.slice none 0 0), .v (.slice none 0 0), Str (keyS 0), I 0, I 0, .v (.string ByteArray.empty), .v (.string ByteArray.empty), .v (.slice none 0 0), Str Ja1, .v (.slice none 0 0)]]⟩) (el := .agg [.v (.slice none 0 0), .v (.slice none 0 0), .v (.slice none 0 0), .v (.slice none 0 0), .v (.slice none 0 0), Str (keyS 0), I 0, I 0, .v (.string ByteArray.empty), .v (.string ByteArray.empty), .v (.slice none 0 0), Str Ja1, .v (.slice none 0 0)]) (by simp -implicitDefEqProofs (disch := omega) only [go_sem, false_and]; try rfl) (by decide) rfl rfl (by simp) (by simp -implicitDefEqProofs (disch := omega) only [go_sem]) rfl ?_
 refine Jbp 14680112 14680114 0 1 62 6 (k := ⟨41, 13, [.agg [.own 14680113 2 0 0, .v (.slice none 0 0), .v (.slice none 0 0), .v (.slice none 0 0), .v (.slice none 0 0), Str (keyS 0), I 0, I 0, .v (.string ByteArray.empty), .v (.string ByteArray.empty), .v (.slice none 0 0), Str Ja1, .v (.slice none 0 0)]]⟩) (el := .agg [.own 14680113 2 0 0, .v (.slice none 0 0), .v (.slice none 0 0), .v (.slice none 0 0), .v (.slice none 0 0), Str (keyS 0), I 0, I 0, .v (.string ByteArray.empty), .v (.string ByteArray.empty), .v (.slice none 0 0), Str Ja1, .v (.slice none 0 0)]) (by simp -implicitDefEqProofs (disch := omega) only [go_sem, false_and]; try rfl) (by decide) rfl rfl (by simp) (by simp -implicitDefEqProofs (disch := omega) only [go_sem]) rfl ?_
 refine Jbp 14680112 14680115 0 2 93 2 (k := ⟨41, 13, [.agg [.own 14680113 2 0 0, .own 14680114 6 0 0, .v (.slice none 0 0), .v (.slice none 0 0), .v (.slice none 0 0), Str (keyS 0), I 0, I 0, .v (.string ByteArray.empty), .v (.string ByteArray.empty), .v (.slice none 0 0), Str Ja1, .v (.slice none 0 0)]]⟩) (el := .agg [.own 14680113 2 0 0, .own 14680114 6 0 0, .v (.slice none 0 0), .v (.slice none 0 0), .v (.slice none 0 0), Str (keyS 0), I 0, I 0, .v (.string ByteArray.empty), .v (.string ByteArray.empty), .v (.slice none 0 0), Str Ja1, .v (.slice none 0 0)]) (by simp -implicitDefEqProofs (disch := omega) only [go_sem, false_and]; try rfl) (by decide) rfl rfl (by simp) (by simp -implicitDefEqProofs (disch := omega) only [go_sem]) rfl ?_
 refine Jbp 14680112 14680116 0 3 100 2 (k := ⟨41, 13, [.agg [.own 14680113 2 0 0, .own 14680114 6 0 0, .own 14680115 2 0 0, .v (.slice none 0 0), .v (.slice none 0 0), Str (keyS 0), I 0, I 0, .v (.string ByteArray.empty), .v (.string ByteArray.empty), .v (.slice none 0 0), Str Ja1, .v (.slice none 0 0)]]⟩) (el := .agg [.own 14680113 2 0 0, .own 14680114 6 0 0, .own 14680115 2 0 0, .v (.slice none 0 0), .v (.slice none 0 0), Str (keyS 0), I 0, I 0, .v (.string ByteArray.empty), .v (.string ByteArray.empty), .v (.slice none 0 0), Str Ja1, .v (.slice none 0 0)]) (by simp -implicitDefEqProofs (disch := omega) only [go_sem, false_and]; try rfl) (by decide) rfl rfl (by simp) (by simp -implicitDefEqProofs (disch := omega) only [go_sem]) rfl ?_
 refine Jbp 14680112 14680117 0 4 3 1 (k := ⟨41, 13, [.agg [.own 14680113 2 0 0, .own 14680114 6 0 0, .own 14680115 2 0 0, .own 14680116 2 0 0, .v (.slice none 0 0), Str (keyS 0), I 0, I 0, .v (.string ByteArray.empty), .v (.string ByteArray.empty), .v (.slice none 0 0), Str Ja1, .v (.slice none 0 0)]]⟩) (el := .agg [.own 14680113 2 0 0, .own 14680114 6 0 0, .own 14680115 2 0 0, .own 14680116 2 0 0, .v (.slice none 0 0), Str (keyS 0), I 0, I 0, .v (.string ByteArray.empty), .v (.string ByteArray.empty), .v (.slice none 0 0), Str Ja1, .v (.slice none 0 0)]) (by simp -implicitDefEqProofs (disch := omega) only [go_sem, false_and]; try rfl) (by decide) rfl rfl (by simp) (by simp -implicitDefEqProofs (disch := omega) only [go_sem]) rfl ?_
 refine Jbp 14680112 14680118 0 12 9 1 (k := ⟨41, 13, [.agg [.own 14680113 2 0 0, .own 14680114 6 0 0, .own 14680115 2 0 0, .own 14680116 2 0 0, .own 14680117 1 0 0, Str (keyS 0), I 0, I 0, .v (.string ByteArray.empty), .v (.string ByteArray.empty), .v (.slice none 0 0), Str Ja1, .v (.slice none 0 0)]]⟩) (el := .agg [.own 14680113 2 0 0, .own 14680114 6 0 0, .own 14680115 2 0 0, .own 14680116 2 0 0, .own 14680117 1 0 0, Str (keyS 0), I 0, I 0, .v (.string ByteArray.empty), .v (.string ByteArray.empty), .v (.slice none 0 0), Str Ja1, .v (.slice none 0 0)]) (by simp -implicitDefEqProofs (disch := omega) only [go_sem, false_and]; try rfl) (by decide) rfl rfl (by simp) (by simp -implicitDefEqProofs (disch := omega) only [go_sem]) rfl ?_
 refine Jel Plain.mono ?_
 simp -implicitDefEqProofs (disch := omega) only [go_sem]
 -- clocks, tariffs, offsets
 refine Jag (λ k E σ => ∃ i : Nat, i + k = 8 /\ E 4 = I i /\ mdI x (.own 14680113 2 0 0) [] (ckN x i) (tfN x i) (ofN x i) [] E σ /\ σ 14680113 = some ⟨104, 2, []⟩) 8 ⟨0, by omega, ?_⟩ ?_
 . simp -implicitDefEqProofs (disch := omega) only [go_sem, mdI, ckN, tfN, ofN, false_and, and_self]
   try ((repeat' apply And.intro) <;> rfl)
 rintro k E σ ⟨i, hk, e4, ⟨e1, e2, e3, m1, m2, m3, mg, mc, mt, mo, mu⟩, mh⟩
 simp -implicitDefEqProofs (disch := omega) only [go_sem, e4, e1, e2, e3, m1, m2, m3, mg, mc, mt, mo, mu, mh]
 refine Jab (λ hc => ?_) (λ hc => ?_)
 . have hck := Jun x i; have htf := JvF x i; have hof := Jvb x i
   have b1 := JgP x i hx.crsL (by omega)
   have b2 := Jno (crsF x i) (Jk7 hx i)
   have b3 := Jkg x.bases i hx.basesL (by omega)
   have r3 := Jqj hx.bases i
   have ht4 : (i : Int).tmod 4 = ((i % 4 : Nat) : Int) := by rw [L0V (by omega)]; omega
   have hmin : (min (x.rates.length : Int) ((i % 4 : Nat) : Int)).toNat = min x.rates.length (i % 4) := by omega
   have htk : x.rates.take (min x.rates.length (i % 4)) = x.rates.take (i % 4) := by
    by_cases h : i % 4 <= x.rates.length
    . rw [Nat.min_eq_right h]
    . rw [L0N (by omega), L05, L03 (by omega)]
   have b4 := Jrc (numF x.bases i) (x.rates.take (i % 4)) r3 (λ q hq => hx.rates q (L0H hq)) (by rw [L01]; have := hx.ratesL; omega)
   have b5 := Jkg x.offs i hx.offsL (by omega)
   have r5 := Jqj hx.offs i
   have b6 := JaG (numF x.offs i) 100801 r5 (by omega)
   have p6 := Jai (c := numF x.offs i) (n := 100801) (by omega)
   have s1 := JrU x i; have s2 := Js6 x i; have s3 := Jsx x i
   have hoff : offF x i = Jaf (numF x.offs i) 100801 - 50400 := rfl
   rw [hoff] at s3; generalize (crsF x i).clk = K at *; generalize tfQ (numF x.bases i) (x.rates.take (i % 4)) = TQ at *; generalize Jaf (numF x.offs i) 100801 = po at *; generalize hC' : ckN x (i + 1) = C' at *; generalize hT' : tfN x (i + 1) = T' at *; generalize hO' : ofN x (i + 1) = O' at *; generalize ckN x i = C at *; generalize tfN x i = T at *; generalize ofN x i = O at *
   have q1 : C.take i = C := L03 (by omega)
   have q2 : T.take i = T := L03 (by omega)
   have q3 : O.take i = O := L03 (by omega)
   obtain ⟨kd, kr⟩ := K; obtain ⟨tl, tb⟩ := TQ; simp -implicitDefEqProofs (disch := omega) only [go_sem, e4, e1, e2, e3, m1, m2, m3, mg, mc, mt, mo, mu, mh, false_and, and_self]
   refine Jaa b1 ?_ (h4 := by first | exact .inl rfl | exact .inr (Jpk _))
   simp -implicitDefEqProofs (disch := omega) only [go_sem, e4, e1, e2, e3, m1, m2, m3, mg, mc, mt, mo, mu, mh, false_and, and_self]
   refine Jaa b2 ?_ (h4 := by first | exact .inl rfl | exact .inr (JxE _))
   simp -implicitDefEqProofs (disch := omega) only [go_sem, e4, e1, e2, e3, m1, m2, m3, mg, mc, mt, mo, mu, mh, hck, htf, hof, q1, q2, q3, false_and, and_self]
   refine Jaa b3 ?_
   simp -implicitDefEqProofs (disch := omega) only [go_sem, e4, e1, e2, e3, m1, m2, m3, mg, mc, mt, mo, mu, mh, hck, htf, hof, q1, q2, q3, ht4, hmin, L16, htk, false_and, and_self]
   refine Jaa b4 ?_ (h4 := by first | exact .inl rfl | exact .inr (JBf _))
   simp -implicitDefEqProofs (disch := omega) only [go_sem, e4, e1, e2, e3, m1, m2, m3, mg, mc, mt, mo, mu, mh, hck, htf, hof, q1, q2, q3, ht4, hmin, L16, htk, false_and, and_self]
   refine Jaa b5 ?_
   simp -implicitDefEqProofs (disch := omega) only [go_sem, e4, e1, e2, e3, m1, m2, m3, mg, mc, mt, mo, mu, mh, hck, htf, hof, q1, q2, q3, ht4, hmin, L16, htk, false_and, and_self]
   refine Jaa b6 ?_
   simp -implicitDefEqProofs (disch := omega) only [go_sem, e4, e1, e2, e3, m1, m2, m3, mg, mc, mt, mo, mu, mh, hck, htf, hof, q1, q2, q3, ht4, hmin, L16, htk, false_and, and_self]
   refine Jad (8 - (i + 1)) (by omega) ⟨i + 1, by omega, ?_⟩
   rw [hC', hT', hO', s1, s2, s3]; simp -implicitDefEqProofs (disch := omega) only [go_sem, mdI, e4, e1, e2, e3, m1, m2, m3, mg, mc, mt, mo, mu, mh, hck, htf, hof, q1, q2, q3, L0a, L0c, L0w, false_and, and_self]
   try simp [hck, htf, hof]
 obtain rfl : i = 8 := by omega
 generalize hC8 : ckN x 8 = C8 at *; generalize hT8 : tfN x 8 = T8 at *; generalize hO8 : ofN x 8 = O8 at *; clear hC8 hT8 hO8 hc; simp -implicitDefEqProofs (disch := omega) only [go_sem, e4, e1, e2, e3, m1, m2, m3, mg, mc, mt, mo, mu, mh, false_and, and_self]
 -- hops
 have hn0 : hopN x.hops 0 = [] := rfl
 refine Jj7 2 (λ E σ => E 5 = .ptr 14680144 2 0 0 /\ mdI x (.own 14680113 2 0 (min x.hops.length 6)) [] C8 T8 O8 [] E σ /\ σ 14680113 = some ⟨104, 2, (hopN x.hops (min x.hops.length 6)).map HPP⟩ /\ σ 14680144 = some ⟨104, 2, [HPP (gd (hopN x.hops (min x.hops.length 6)) (min x.hops.length 6 - 1))]⟩) ?_ ?_
 . refine Jag (λ k E σ => ∃ i : Nat, i + k = 6 /\ i <= x.hops.length /\ E 6 = I i /\ E 5 = .ptr 14680144 2 0 0 /\ mdI x (.own 14680113 2 0 i) [] C8 T8 O8 [] E σ /\ σ 14680113 = some ⟨104, 2, (hopN x.hops i).map HPP⟩ /\ σ 14680144 = some ⟨104, 2, [HPP (gd (hopN x.hops i) (i - 1))]⟩) 6 ⟨0, by omega, by omega, ?_⟩ ?_
   . simp -implicitDefEqProofs (disch := omega) only [go_sem, mdI, hn0, e1, e2, e3, m1, m2, m3, mg, mc, mt, mo, mu, mh, false_and, and_self]
     try ((repeat' apply And.intro) <;> rfl)
   clear e1 e2 e3 e4 m1 m2 m3 mg mc mt mo mu mh E σ
   rintro k E σ ⟨i, hk, hil, e6, e5, ⟨e1, e2, e3, m1, m2, m3, mg, mc, mt, mo, mu⟩, mh, m5⟩
   simp -implicitDefEqProofs (disch := omega) only [go_sem, e5, e6, e1, e2, e3, m1, m2, m3, mg, mc, mt, mo, mu, mh, m5]
   refine Jab (λ hc => ?_) (λ hc => ?_)
   rotate_left
   . obtain rfl : i = min x.hops.length 6 := by omega
     simp -implicitDefEqProofs (disch := omega) only [go_sem, mdI, e5, e6, e1, e2, e3, m1, m2, m3, mg, mc, mt, mo, mu, mh, m5, false_and, and_self]; try rfl
   simp -implicitDefEqProofs (disch := omega) only [go_sem, e5, e6, e1, e2, e3, m1, m2, m3, mg, mc, mt, mo, mu, mh, m5]
   refine Jab (λ hc2 => ?_) (λ hc2 => ?_)
   rotate_left
   . obtain rfl : i = min x.hops.length 6 := by omega
     simp -implicitDefEqProofs (disch := omega) only [go_sem, mdI, e5, e6, e1, e2, e3, m1, m2, m3, mg, mc, mt, mo, mu, mh, m5, false_and, and_self]; try rfl
   have hil2 : i < x.hops.length := by omega
   have hnl := JaX x.hops i
   obtain ⟨r1, r2⟩ := hx.hops _ (Jan x.hops i hil2)
   have c1 := JaG (gd x.hops i).1 8 r1 (by omega)
   have c2 := JaG (gd x.hops i).2 4 r2 (by omega)
   have c3 := JaG (gd x.hops i).1 7 r1 (by omega)
   have p1 := Jai (c := (gd x.hops i).1) (n := 8) (by omega)
   have p2 := Jai (c := (gd x.hops i).2) (n := 4) (by omega)
   have p3 := Jai (c := (gd x.hops i).1) (n := 7) (by omega)
   have hla : (0 <= (gd (hopN x.hops i) (i - 1)).1 /\ (gd (hopN x.hops i) (i - 1)).1 <= 7) /\ 0 <= (gd (hopN x.hops i) (i - 1)).2 /\ (gd (hopN x.hops i) (i - 1)).2 <= 20 := by
    by_cases h0 : i = 0
    . subst h0; rw [hn0, JtC]; decide
    . exact JgX x.hops i _ (Jan _ _ (by rw [hnl]; omega))
   have hs : hopN x.hops (i + 1) = hopN x.hops i ++ [hopF (gd x.hops i) (gd (hopN x.hops i) (i - 1)) i] := rfl
   have hF : hopF (gd x.hops i) (gd (hopN x.hops i) (i - 1)) i = (if i = 0 then Jaf (gd x.hops i).1 8 else ((gd (hopN x.hops i) (i - 1)).1 + 1 + Jaf (gd x.hops i).1 7).tmod 8, min ((gd (hopN x.hops i) (i - 1)).2 + Jaf (gd x.hops i).2 4) 20) := rfl
   have hg : gd (hopN x.hops (i + 1)) (i + 1 - 1) = hopF (gd x.hops i) (gd (hopN x.hops i) (i - 1)) i := by
    rw [hs, L1e, JbB _ _ _ (by omega), hnl, L1y, JaJ]
   generalize hopF (gd x.hops i) (gd (hopN x.hops i) (i - 1)) i = h at *; generalize hH' : hopN x.hops (i + 1) = H' at *; generalize gd (hopN x.hops i) (i - 1) = la at *; generalize hopN x.hops i = H at *; obtain ⟨la1, la2⟩ := la; obtain ⟨h1, h2⟩ := h; simp only [Prod.mk.injEq] at hF hla; obtain ⟨hF1, hF2⟩ := hF; generalize Jaf (gd x.hops i).1 8 = w1 at *; generalize Jaf (gd x.hops i).2 4 = w2 at *; generalize Jaf (gd x.hops i).1 7 = w3 at *
   have qt : H.take i = H := L03 (by omega)
   simp -implicitDefEqProofs (disch := omega) only [go_sem, e5, e6, e1, e2, e3, m1, m2, m3, mg, mc, mt, mo, mu, mh, m5, false_and, and_self]
   refine Jaa c1 ?_
   simp -implicitDefEqProofs (disch := omega) only [go_sem, e5, e6, e1, e2, e3, m1, m2, m3, mg, mc, mt, mo, mu, mh, m5, false_and, and_self]
   refine Jaa c2 ?_
   simp -implicitDefEqProofs (disch := omega) only [go_sem, e5, e6, e1, e2, e3, m1, m2, m3, mg, mc, mt, mo, mu, mh, m5, false_and, and_self]
   refine JbJ (λ E σ => E 6 = I i /\ E 5 = .ptr 14680144 2 0 0 /\ E 7 = .ptr 14680176 2 0 0 /\ mdI x (.own 14680113 2 0 i) [] C8 T8 O8 [] E σ /\ σ 14680113 = some ⟨104, 2, H.map HPP⟩ /\ σ 14680144 = some ⟨104, 2, [HPP (la1, la2)]⟩ /\ σ 14680176 = some ⟨104, 2, [HPP (h1, h2)]⟩) (λ h0 => ?_) (λ h0 => ?_) ?_
   . rw [if_neg (by omega)] at hF1
     simp -implicitDefEqProofs (disch := omega) only [go_sem, e5, e6, e1, e2, e3, m1, m2, m3, mg, mc, mt, mo, mu, mh, m5, false_and, and_self]
     refine Jaa c3 ?_
     simp -implicitDefEqProofs (disch := omega) only [go_sem, mdI, e5, e6, e1, e2, e3, m1, m2, m3, mg, mc, mt, mo, mu, mh, m5, hF1, hF2, false_and, and_self]; try rfl
   . rw [if_pos (by omega)] at hF1
     simp -implicitDefEqProofs (disch := omega) only [go_sem, mdI, e5, e6, e1, e2, e3, m1, m2, m3, mg, mc, mt, mo, mu, mh, m5, hF1, hF2, false_and, and_self]; try rfl
   clear e5 e6 e1 e2 e3 m1 m2 m3 mg mc mt mo mu mh m5 E σ
   rintro E σ ⟨e6, e5, e7, ⟨e1, e2, e3, m1, m2, m3, mg, mc, mt, mo, mu⟩, mh, m5, m7⟩
   simp -implicitDefEqProofs (disch := omega) only [go_sem, e5, e6, e7, e1, e2, e3, m1, m2, m3, mg, mc, mt, mo, mu, mh, m5, m7, hnl, qt, false_and, and_self]
   refine Jad (6 - (i + 1)) (by omega) ⟨i + 1, by omega, by omega, ?_⟩
   rw [hH', hg, hs]; simp -implicitDefEqProofs (disch := omega) only [go_sem, mdI, e5, e6, e7, e1, e2, e3, m1, m2, m3, mg, mc, mt, mo, mu, mh, m5, m7, hnl, qt, L0a, L0c, L0w, false_and, and_self]; try simp
 clear e1 e2 e3 e4 m1 m2 m3 mg mc mt mo mu mh E σ
 have hHm : (hopN x.hops (min x.hops.length 6)).length = min x.hops.length 6 := JaX _ _
 have hHF : Jau x.hops = if x.hops = [] then [(0, 0)] else hopN x.hops (min x.hops.length 6) := rfl
 have hLH : gd (hopN x.hops (min x.hops.length 6)) (min x.hops.length 6 - 1) = JdJ x.hops := by
  unfold JdJ
  by_cases h0 : x.hops = []
  . rw [hHF, if_pos h0, h0]; rfl
  . rw [hHF, if_neg h0, hHm]
 rw [hLH]; clear hLH
 rintro E σ ⟨e5, ⟨e1, e2, e3, m1, m2, m3, mg, mc, mt, mo, mu⟩, mh, m5⟩
 simp -implicitDefEqProofs (disch := omega) only [go_sem, e5, e1, e2, e3, m1, m2, m3, mg, mc, mt, mo, mu, mh, m5]
 have qHm : (hopN x.hops (min x.hops.length 6)).take (min x.hops.length 6) = hopN x.hops (min x.hops.length 6) := L03 (by omega)
 refine JaW Plain.mono [14680113] ?_
 simp -implicitDefEqProofs (disch := omega) only [go_sem, e5, e1, e2, e3, m1, m2, m3, mg, mc, mt, mo, mu, mh, m5, qHm, hHm, L0b, false_and, and_self]
 refine JbJ (λ E σ => E 5 = .ptr 14680144 2 0 0 /\ mdI x (HPS (Jau x.hops)) [] C8 T8 O8 [] E σ /\ σ 14680144 = some ⟨104, 2, [HPP (JdJ x.hops)]⟩) (λ h0 => ?_) (λ h0 => ?_) ?_
 . have hnil : x.hops = [] := L0Y (by omega)
   rw [if_pos hnil] at hHF; rw [hHF]; simp -implicitDefEqProofs (disch := omega) only [go_sem, e5, e1, e2, e3, m1, m2, m3, mg, mc, mt, mo, mu, mh, m5, qHm, hHm, L0b, false_and, and_self]
   refine Jle [14681936] ?_
   refine Jel Plain.mono ?_
   simp -implicitDefEqProofs (disch := omega) only [go_sem, mdI, e5, e1, e2, e3, m1, m2, m3, mg, mc, mt, mo, mu, mh, m5, qHm, hHm, L0b, false_and, and_self]; try rfl
 . have hnil : x.hops ≠ [] := λ h => by rw [h] at h0; exact h0 rfl
   rw [if_neg hnil] at hHF; rw [hHF]; simp -implicitDefEqProofs (disch := omega) only [go_sem, mdI, e5, e1, e2, e3, m1, m2, m3, mg, mc, mt, mo, mu, mh, m5, qHm, hHm, L0b, false_and, and_self]; try rfl
 clear hHF hHm qHm e5 e1 e2 e3 m1 m2 m3 mg mc mt mo mu mh m5 E σ; generalize Jau x.hops = HS at *
 rintro E σ ⟨e5, ⟨e1, e2, e3, m1, m2, m3, mg, mc, mt, mo, mu⟩, m5⟩
 simp -implicitDefEqProofs (disch := omega) only [go_sem, e5, e1, e2, e3, m1, m2, m3, mg, mc, mt, mo, mu, m5]
 -- updates
 have hu0 : upsN 0 = [] := rfl
 obtain ⟨n, hn⟩ : ∃ n : Nat, ((JdJ x.hops).2 + 2).toNat = n := ⟨_, rfl⟩
 rw [hn] at cw ⊢; generalize JdJ x.hops = la at *; obtain ⟨la1, la2⟩ := la
 simp only at *
 refine Jag (λ k E σ => ∃ i : Nat, i + k = n /\ E 8 = I i /\ E 5 = .ptr 14680144 2 0 0 /\ mdI x (HPS HS) [] C8 T8 O8 (upsN i) E σ /\ σ 14680144 = some ⟨104, 2, [HPP (la1, la2)]⟩) n ⟨0, by omega, ?_⟩ ?_
 . simp -implicitDefEqProofs (disch := omega) only [go_sem, mdI, hu0, e5, e1, e2, e3, m1, m2, m3, mg, mc, mt, mo, mu, m5, false_and, and_self]
   try ((repeat' apply And.intro) <;> rfl)
 clear e5 e1 e2 e3 m1 m2 m3 mg mc mt mo mu m5 E σ
 rintro k E σ ⟨i, hk, e8, e5, ⟨e1, e2, e3, m1, m2, m3, mg, mc, mt, mo, mu⟩, m5⟩
 simp -implicitDefEqProofs (disch := omega) only [go_sem, e5, e8, e1, e2, e3, m1, m2, m3, mg, mc, mt, mo, mu, m5]
 refine Jab (λ hc => ?_) (λ hc => ?_)
 . have b1 := Jrj i (by omega)
   have s1 := Jrl i; have ul := Jds i; generalize updS i = US at *; generalize hU' : upsN (i + 1) = U' at *; generalize upsN i = U at *
   have qt : U.take i = U := L03 (by omega)
   simp -implicitDefEqProofs (disch := omega) only [go_sem, e5, e8, e1, e2, e3, m1, m2, m3, mg, mc, mt, mo, mu, m5, false_and, and_self]
   refine Jaa b1 ?_
   simp -implicitDefEqProofs (disch := omega) only [go_sem, e5, e8, e1, e2, e3, m1, m2, m3, mg, mc, mt, mo, mu, m5, ul, qt, false_and, and_self]
   refine Jad (n - (i + 1)) (by omega) ⟨i + 1, by omega, ?_⟩
   rw [hU', s1]; simp -implicitDefEqProofs (disch := omega) only [go_sem, mdI, e5, e8, e1, e2, e3, m1, m2, m3, mg, mc, mt, mo, mu, m5, ul, qt, L0a, L0c, L0w, false_and, and_self]
   try simp [ul]
 obtain rfl : i = n := by omega
 have ul := Jds i; generalize upsN i = U at *
 have qtu : U.take i = U := L03 (by omega)
 simp -implicitDefEqProofs (disch := omega) only [go_sem, e5, e8, e1, e2, e3, m1, m2, m3, mg, mc, mt, mo, mu, m5]
 -- legs
 have hg0 : lgN x HS 0 = [] := rfl
 refine Jag (λ k E σ => ∃ i : Nat, i + k = HS.length - 1 /\ E 9 = I i /\ mdI x (HPS HS) (lgN x HS i) C8 T8 O8 U E σ) (HS.length - 1) ⟨0, by omega, ?_⟩ ?_
 . simp -implicitDefEqProofs (disch := omega) only [go_sem, mdI, hg0, e1, e2, e3, m1, m2, m3, mg, mc, mt, mo, mu, false_and, and_self]
   try ((repeat' apply And.intro) <;> rfl)
 clear e5 e8 e1 e2 e3 m1 m2 m3 mg mc mt mo mu m5 E σ hk hc k
 rintro k E σ ⟨v, hk, e9, e1, e2, e3, m1, m2, m3, mg, mc, mt, mo, mu⟩
 have hvv : ((v : Int) + 1).toNat = v + 1 := by omega
 simp -implicitDefEqProofs (disch := omega) only [go_sem, e9, e1, e2, e3, m1, m2, m3, mg, mc, mt, mo, mu]
 refine Jab (λ hc => ?_) (λ hc => ?_)
 rotate_left
 . obtain rfl : v = HS.length - 1 := by omega
   generalize lgN x HS (HS.length - 1) = G at *
   have qg : G.take (HS.length - 1) = G := L03 (by omega)
   have qc : C8.take C8.length = C8 := L05
   have qt : T8.take T8.length = T8 := L05
   have qo : O8.take O8.length = O8 := L05
   simp -implicitDefEqProofs (disch := omega) only [go_sem, e9, e1, e2, e3, m1, m2, m3, mg, mc, mt, mo, mu]
   refine JaW Plain.mono [14680114, 14680115, 14680116, 14680117, 14680118] ?_
   simp -implicitDefEqProofs (disch := omega) only [go_sem, e9, e1, e2, e3, m1, m2, m3, mg, mc, mt, mo, mu, hlen1, ul, qg, qc, qt, qo, qtu, L0b, false_and, and_self]
   refine Jaa cw ?_
   simp -implicitDefEqProofs (disch := omega) only [go_sem, e9, e1, e2, e3, m1, m2, m3, mg, mc, mt, mo, mu, hlen1, ul, qg, qc, qt, qo, qtu, L0b, false_and, and_self, results6]; try rfl
 have hv1 : v < HS.length := by omega
 have hv2 : v + 1 < HS.length := by omega
 have hgl := Jp4 x HS v; have s1 := Jsm x HS v
 have hlm : legM x HS v = ⟨(gd HS v).1, (gd HS (v + 1)).1, (crsF x (gd HS v).1.toNat).cnt (Jaf (legY x v).1 2000) (Jaf (legY x v).1 2000 + Jaf (legY x v).2.1 900), if Jaf (legY x v).2.2 4 = 3 then ⟨((crsF x (gd HS (v + 1)).1.toNat).cnt (Jaf (legY x v).1 2000) (Jaf (legY x v).1 2000 + Jaf (legY x v).2.1 900)).b, ((crsF x (gd HS (v + 1)).1.toNat).cnt (Jaf (legY x v).1 2000) (Jaf (legY x v).1 2000 + Jaf (legY x v).2.1 900)).e + Jaf (legY x v).2.2 400⟩ else (crsF x (gd HS (v + 1)).1.toNat).cnt (Jaf (legY x v).1 2000) (Jaf (legY x v).1 2000 + Jaf (legY x v).2.1 900)⟩ := rfl
 have hY : legY x v = if x.legs = [] then (100 * (v : Int), 60, 0) else gd x.legs (v % x.legs.length) := rfl
 have hi1 := hHi _ (Jan HS v hv1); have hi2 := hHi _ (Jan HS (v + 1) hv2)
 have hYr : T3ok (legY x v) := by
  rw [hY]
  split
  . refine ⟨⟨?_, ?_⟩, ⟨?_, ?_⟩, ⟨?_, ?_⟩⟩ <;> simp only <;> omega
  . rename_i hne
    exact hx.legs _ (Jan _ _ (L1k _ (L1f.2 hne)))
 obtain ⟨y1, y2, y3⟩ := hYr
 have a1 := Jai (c := (legY x v).1) (n := 2000) (by omega)
 have a2 := Jai (c := (legY x v).2.1) (n := 900) (by omega)
 have a3 := Jai (c := (legY x v).2.2) (n := 400) (by omega)
 have d1 := JaG (legY x v).1 2000 y1 (by omega)
 have d2 := JaG (legY x v).2.1 900 y2 (by omega)
 have d3 := JaG (legY x v).2.2 400 y3 (by omega)
 have d4 := JaG (legY x v).2.2 4 y3 (by omega)
 have n1 : (((gd HS v).1.toNat : Nat) : Int) = (gd HS v).1 := by omega
 have n2 : (((gd HS (v + 1)).1.toNat : Nat) : Int) = (gd HS (v + 1)).1 := by omega
 have f1 := JgP x (gd HS v).1.toNat hx.crsL (by omega)
 have f2 := JgP x (gd HS (v + 1)).1.toNat hx.crsL (by omega)
 rw [n1] at f1; rw [n2] at f2
 have g1 := JhK (crsF x (gd HS v).1.toNat) (Jaf (legY x v).1 2000) (Jaf (legY x v).1 2000 + Jaf (legY x v).2.1 900) (Jk7 hx _) (by omega) (by omega)
 have g2 := JhK (crsF x (gd HS (v + 1)).1.toNat) (Jaf (legY x v).1 2000) (Jaf (legY x v).1 2000 + Jaf (legY x v).2.1 900) (Jk7 hx _) (by omega) (by omega)
 have g3 : ((crsF x (gd HS (v + 1)).1.toNat).cnt (Jaf (legY x v).1 2000) (Jaf (legY x v).1 2000 + Jaf (legY x v).2.1 900)).e <= 9000 := by
  have hd := Jai (c := (crsF x (gd HS (v + 1)).1.toNat).d) (n := 101) (by omega)
  have := (Jdm (d := Jaf (crsF x (gd HS (v + 1)).1.toNat).d 101) (by omega) (crsF x (gd HS (v + 1)).1.toNat).s (crsF x (gd HS (v + 1)).1.toNat).r (t := Jaf (legY x v).1 2000 + Jaf (legY x v).2.1 900) (by omega)).2
  simp only [Cr.cnt, Cr.show]; omega
 have g4 := (JdV.1 (Jpg (crsF x (gd HS (v + 1)).1.toNat) (f := Jaf (legY x v).1 2000) (t := Jaf (legY x v).1 2000 + Jaf (legY x v).2.1 900) (by omega) (by omega) (by omega)))
 generalize hK1 : (crsF x (gd HS v).1.toNat).cnt (Jaf (legY x v).1 2000) (Jaf (legY x v).1 2000 + Jaf (legY x v).2.1 900) = K1 at *; generalize hK2 : (crsF x (gd HS (v + 1)).1.toNat).cnt (Jaf (legY x v).1 2000) (Jaf (legY x v).1 2000 + Jaf (legY x v).2.1 900) = K2 at *; clear hK1 hK2; generalize crsF x (gd HS v).1.toNat = R1 at *; generalize crsF x (gd HS (v + 1)).1.toNat = R2 at *; generalize Jaf (legY x v).1 2000 = w1 at *; generalize Jaf (legY x v).2.1 900 = w2 at *; generalize Jaf (legY x v).2.2 400 = w3 at *; generalize Jaf (legY x v).2.2 4 = w4 at *; generalize hLM : legM x HS v = LM at *; generalize hG' : lgN x HS (v + 1) = G' at *; generalize lgN x HS v = G at *
 have qg : G.take v = G := L03 (by omega)
 have y1 := y1; simp -implicitDefEqProofs (disch := omega) only [go_sem, e9, e1, e2, e3, m1, m2, m3, mg, mc, mt, mo, mu, false_and, and_self]
 refine JbJ (λ E σ => E 9 = I v /\ E 10 = .ptr 14680224 3 0 0 /\ mdI x (HPS HS) G C8 T8 O8 U E σ /\ σ 14680224 = some ⟨107, 3, [.agg [I (legY x v).1, I (legY x v).2.1, I (legY x v).2.2]]⟩) (λ h0 => ?_) (λ h0 => ?_) ?_
 . have hne : x.legs ≠ [] := λ h => by rw [h] at h0; exact absurd h0 (by decide)
   rw [if_neg hne] at hY; have hlp := L1f.2 hne
   have hm : ((v : Int)).tmod x.legs.length = ((v % x.legs.length : Nat) : Int) := by rw [L0V (by omega)]; omega
   have hlt : v % x.legs.length < x.legs.length := L1k _ hlp
   generalize v % x.legs.length = j at *; rw [hY]; simp -implicitDefEqProofs (disch := omega) only [go_sem, mdI, e9, e1, e2, e3, m1, m2, m3, mg, mc, mt, mo, mu, hm, false_and, and_self]; try rfl
 . have hnil : x.legs = [] := L0Y (by omega)
   rw [if_pos hnil] at hY; rw [hY]; simp -implicitDefEqProofs (disch := omega) only [go_sem, mdI, e9, e1, e2, e3, m1, m2, m3, mg, mc, mt, mo, mu, false_and, and_self]; try rfl
 clear e9 e1 e2 e3 m1 m2 m3 mg mc mt mo mu E σ hY
 rintro E σ ⟨e9, e10, ⟨e1, e2, e3, m1, m2, m3, mg, mc, mt, mo, mu⟩, m10⟩
 generalize (legY x v).1 = u1 at *; generalize (legY x v).2.1 = u2 at *; generalize (legY x v).2.2 = u3 at *; simp -implicitDefEqProofs (disch := omega) only [go_sem, e9, e10, e1, e2, e3, m1, m2, m3, mg, mc, mt, mo, mu, m10, false_and, and_self]
 refine Jaa d1 ?_
 simp -implicitDefEqProofs (disch := omega) only [go_sem, e9, e10, e1, e2, e3, m1, m2, m3, mg, mc, mt, mo, mu, m10, false_and, and_self]
 refine Jaa d2 ?_
 simp -implicitDefEqProofs (disch := omega) only [go_sem, e9, e10, e1, e2, e3, m1, m2, m3, mg, mc, mt, mo, mu, m10, hvv, false_and, and_self]
 refine Jaa f1 ?_ (h4 := by first | exact .inl rfl | exact .inr (Jpk _))
 simp -implicitDefEqProofs (disch := omega) only [go_sem, e9, e10, e1, e2, e3, m1, m2, m3, mg, mc, mt, mo, mu, m10, hvv, false_and, and_self]
 refine Jaa g1 ?_
 simp -implicitDefEqProofs (disch := omega) only [go_sem, e9, e10, e1, e2, e3, m1, m2, m3, mg, mc, mt, mo, mu, m10, hvv, false_and, and_self]
 refine Jaa f2 ?_ (h4 := by first | exact .inl rfl | exact .inr (Jpk _))
 simp -implicitDefEqProofs (disch := omega) only [go_sem, e9, e10, e1, e2, e3, m1, m2, m3, mg, mc, mt, mo, mu, m10, hvv, false_and, and_self]
 refine Jaa g2 ?_
 simp -implicitDefEqProofs (disch := omega) only [go_sem, e9, e10, e1, e2, e3, m1, m2, m3, mg, mc, mt, mo, mu, m10, hvv, false_and, and_self]
 refine Jaa d4 ?_
 simp -implicitDefEqProofs (disch := omega) only [go_sem, e9, e10, e1, e2, e3, m1, m2, m3, mg, mc, mt, mo, mu, m10, hvv, false_and, and_self]
 refine JbJ (λ E σ => E 9 = I v /\ E 13 = .ptr 14680272 6 0 0 /\ mdI x (HPS HS) G C8 T8 O8 U E σ /\ σ 14680272 = some ⟨62, 6, [LGP LM]⟩) (λ h0 => ?_) (λ h0 => ?_) ?_
 . rw [if_pos h0] at hlm; rw [hlm]; simp -implicitDefEqProofs (disch := omega) only [go_sem, e9, e10, e1, e2, e3, m1, m2, m3, mg, mc, mt, mo, mu, m10, false_and, and_self]
   refine Jaa d3 ?_
   simp -implicitDefEqProofs (disch := omega) only [go_sem, mdI, e9, e10, e1, e2, e3, m1, m2, m3, mg, mc, mt, mo, mu, m10, false_and, and_self]; try rfl
 . rw [if_neg h0] at hlm; rw [hlm]; simp -implicitDefEqProofs (disch := omega) only [go_sem, mdI, e9, e10, e1, e2, e3, m1, m2, m3, mg, mc, mt, mo, mu, m10, false_and, and_self]; try rfl
 clear e9 e10 e1 e2 e3 m1 m2 m3 mg mc mt mo mu m10 E σ hlm
 rintro E σ ⟨e9, e13, ⟨e1, e2, e3, m1, m2, m3, mg, mc, mt, mo, mu⟩, m13⟩
 simp -implicitDefEqProofs (disch := omega) only [go_sem, e9, e13, e1, e2, e3, m1, m2, m3, mg, mc, mt, mo, mu, m13, hgl, qg, false_and, and_self]
 refine Jad (HS.length - 1 - (v + 1)) (by omega) ⟨v + 1, by omega, ?_⟩
 rw [hG', s1]; simp -implicitDefEqProofs (disch := omega) only [go_sem, mdI, e9, e13, e1, e2, e3, m1, m2, m3, mg, mc, mt, mo, mu, m13, hgl, qg, L0a, L0c, L0w, false_and, and_self]
 try simp [hgl]
theorem Jp9 (x : Nm) (d : x.ok) : (JaE x).ok where
 part := Jzg _ _ _
 rds := λ c b => by
  have := JaO.1 (Jbm x)
  have := (JcT.1 (L0d.1 this.2.2.1 c b)).1.2.2
  omega
 good := L0d.1 (JaO.1 (Jbm x)).2.2.2.1
 hops := by have := (JaO.1 (Jbm x)).2.1; omega
 legs := by have := (JaO.1 (Jbm x)).2.1; omega
 cks := by have := (JaO.1 (Jbm x)).2.1; omega
 tfs := by have := (JaO.1 (Jbm x)).2.1; omega
 offs := by have := (JaO.1 (Jbm x)).2.1; omega
 ups := by have := (JaO.1 (Jbm x)).2.1; omega
end Go.Proofs.YtlecbpkidomjbaaGreatDoor
namespace Go.Vai
open Go.RowKit
end Go.Vai
set_option maxRecDepth 100000
namespace Go.Proofs.YtlecbpkidomjbaaGreatDoor
open Go.Proofs.Tryz
open Go.Vai Go Go.Proofs
@[go_sem] theorem Jxt (l : List T3) (a b c : Int) : l.map QT ++ [.agg [.v (.int .i64 a), .v (.int .i64 b), .v (.int .i64 c)]] = (l ++ [(a, b, c)]).map QT := by simp
end Go.Proofs.YtlecbpkidomjbaaGreatDoor
set_option maxRecDepth 100000
namespace Go.Vai
open Go.RowKit Go.ChangeShapes Go.WideShapes
theorem Ju1 {H : Type} {enc : TypeId × Value -> H} {C : Checked} {os : Os} {f : FuncId} {m : Func} {s : ChangeSpec} {g : List PathCond} {u h : Bool} {tb : TypeId} {ps : List (AV -> Prop)} {X : World -> Array Value -> Prop}
 (Z : ∀ (w w' : World) (args : Array Value), w.heap = w'.heap -> X w args -> X w' args)
 (own : ownKnob C.prog.godebug = none) (k : os.Started) (o : C.prog.inits.idxOf? f = none) (I : C.prog.funcs[f]? = some m)
 (l : ∃ (w : World) (c : Tape) (i : Input), w.os = os /\ (w.forCall c i).Shaped C.prog /\ i.vars = [] /\ Input.okWide C.prog (w.forCall c i) .any w.heap.size f i /\
  ((s.pre enc C.prog m g false (w.forCall c i).memory i.args /\ X (w.forCall c i).memory i.args) /\ sizedMet enc C.prog m (OpenSpec.ofChange s) false (w.forCall c i).memory i.args) /\ ({} : Assume).holds C.prog (lone (Frame.enter C.prog f i.args .normal) [] (w.forCall c i)))
 (hl : laidOutB C.prog = true) (hr : (m.params.toList.all λ t => C.prog.readableRec t && decide (t < C.prog.types.size)) = true) (N : m.resultTypes = #[tb]) (O : C.prog.underlying tb = some .bool) (z : s.vars = [])
 (hs : ∀ E : List (DataW H), E.length = m.params.size -> s.fn H E = { results := [.lit (.bool true)], args := E })
 (M : ∀ w : World, JeH C.prog enc w m.params.toList ps) (G : ∀ d, AllP ps d -> Ev C.prog f d (.v (.bool true))) (K : ∀ (w : World) (args : Array Value), X w args -> GOK w (Here w)) :
 ReturnsInHanded {} C os f .any (λ w args => (s.pre enc C.prog m g false w args /\ X w args) /\ sizedMet enc C.prog m (OpenSpec.ofChange s) false w args) (s.post enc C.prog m false u h false) := by
 refine returnsInHanded_of_change_and (C := C) (X := X) Z own k o I l ?_
 intro W P args E gs D B Y _ _ T _
 obtain ⟨p, q, R, V, e, J, L⟩ := Y
 obtain ⟨d, F, A⟩ := Jh5 (M W) R (λ j t v hj hv => B j t v (by simpa using hj) (by simpa using hv))
 have := (G d F d _ ⟨rfl, rfl⟩).2 W (Here W) args.toList (λ b hb => hb) (K W args T) A
 refine (this.mono ?_)
 rintro e' W' ⟨y, rfl, hx, S, _, _, U⟩
 obtain ⟨ob, Q, _⟩ := U
 have hy : y = .bool true := by
  unfold R1 at Q
  cases Q.2 with | v => rfl
 subst hy
 exact ⟨_, rfl, Jqv hl (λ t ht => by simpa using L0d.1 hr t ht) N O z hs ⟨p, q, R, V, e, J, L⟩ hx⟩
end Go.Vai
namespace Go.Proofs.YtlecbpkidomjbaaGreatDoor
open Go.Proofs.Tryz
open Go.Vai Go Go.Proofs Go.RowKit
theorem own3 : ownKnob Tryz.checked.prog.godebug = none := by kernel_rfl
theorem Jsf : laidOutB Tryz.checked.prog = true := by kernel_rfl
abbrev JnG : List (String × DataW Unit) := [("dialtone/digest.round", Rows.laid_dialtone_digest_round)]
theorem JxV : prog.globalNamed "dialtone/digest.round" = some 0 := by kernel_rfl
def Jid : List Int := (gtab.headD (0, [])).2.map λ v => match v with | .int _ n => n | _ => 0
theorem JuD : gtab = [(0, Jid.map (Value.int .u32))] := by kernel_rfl
theorem JuW : (Rows.laid_dialtone_digest_round : DataW Unit) = .agg (Jid.map λ n => .lit (.int .u32 n)) := by kernel_rfl
theorem JlJ {W : World} (h : laidMetH prog JnG W) : ∀ (i : Nat) (v : Value), (Jid.map (Value.int .u32))[i]? = some v -> W.cell? ⟨0, i, none⟩ = some v := by
 rw [MakeChecks.laidMetH_plain _ _ _ (by kernel_rfl)] at h
 obtain ⟨M, ⟨I, z, c, H, L, N, d, p, q, l, _, _⟩, _, _⟩ := h
 obtain rfl := Option.some.inj (JxV.symm.trans d)
 have G : (prog.globals[0]?).map (·.type) = some z := p
 intro i v f
 rw [World.var?_cell d q i]
 have t : z = 303 := by
  have : (prog.globals[0]?).map (·.type) = some 303 := by kernel_rfl
  exact Option.some.inj (G.symm.trans this)
 subst t
 obtain ⟨A, K, rfl, g, y, J, m⟩ := DataW.trod_array (n := 64) (e := 280) (by kernel_rfl) l
 have B : prog.cellsOf 280 = 1 := by kernel_rfl
 simp only [Prod.mk.injEq] at g; have s := g.1; rw [JuW] at s; simp only [DataW.agg.injEq] at s
 have o : Jid.length = 64 := by kernel_rfl
 have E : i < 64 := by
  have := (L09.1 f).1
  rw [L0b, o] at this; exact this
 have j := m i E; rw [B, L0S] at j
 cases hxi : A[i]? with
 | none => rw [L1W] at hxi; omega
 | some x =>
  rw [hxi] at j
  obtain ⟨n, C, D, _⟩ := DataW.trod_int (k := .u32) (by kernel_rfl) j
  have u : (A.map (·.1))[i]? = some x.1 := by rw [L06, hxi]; rfl
  rw [<- s, L06] at u
  obtain ⟨r, F, b⟩ := L0f.1 u
  rw [L06, F] at f; have f := Option.some.inj f; rw [D] at b; simp only [DataW.lit.injEq, Lit.int.injEq, true_and] at b
  have w : (c.toList.drop i)[0]? = some (.int .u32 n) := by
   have : ((c.toList.drop i).take 1)[0]? = some (.int .u32 n) := by rw [C]; rfl
   rwa [L0k, if_pos (by omega)] at this
  rw [L0B, L0Q] at w; rw [<- L0O, w, <- f, b]
theorem gok {W : World} (h : laidMetH prog JnG W) : GOK W (Here W) := by
 intro p d
 rw [JuD, L0r] at d; subst d; have c := JlJ h
 refine ⟨?_, λ i v f => ⟨c i v f, ?_⟩⟩
 . have g : (Jid.map (Value.int .u32))[0]? = some (.int .u32 (gd Jid 0)) := by kernel_rfl
   have := c 0 _ g
   show 0 < W.heap.size
   rcases Nat.eq_zero_or_pos W.heap.size with b | b
   . have : W.heap[0]? = none := Array.getElem?_eq_none (by omega)
     simp [World.cell?, this] at *
   . exact b
 . obtain ⟨r, _, rfl⟩ := L04.1 (L02 f)
   rfl
theorem JrZ (os : Os) (args : Array Value) : laidMetH prog JnG ((World.doorLaid prog 7 os).forCall (λ _ _ => 0) ⟨#[], args, []⟩).memory :=
 laidMetH_of_parts3 (fuel := 8) (laidMet_of_run' 8 (by kernel_rfl) (by kernel_rfl)) (by kernel_rfl) (by kernel_rfl)
section
variable {H : Type} {enc : TypeId × Value -> H} {w : World}
def OI (a : AV) : Prop := ∃ n, R64 n /\ a = I n
theorem wf64 {n : Int} : (Lit.int .i64 n).wf = true ↔ R64 n := by
 have b : IntKind.i64.min = -9223372036854775808 := by decide
 have c : IntKind.i64.max = 9223372036854775807 := by decide
 simp [Lit.wf, R64, b, c]
theorem Jly {t : TypeId} (b : prog.underlying t = some (.int .i64)) : Jb5 prog enc w t OI :=
 (Jqo b).mono (λ a ⟨n, h, e⟩ => ⟨n, wf64.1 h, e⟩) λ a ⟨n, h, e⟩ => ⟨n, wf64.2 h, e⟩
def OSL (a : AV) : Prop := ∃ l : List Int, l.length <= 9223372036854775807 /\ (∀ x ∈ l, R64 x) /\ a = SL l
theorem JmH : Jb5 prog enc w 25 OSL :=
 (Jco (T := Int) (q := R64) (f := I) (e := 3) (sz := 1) (by kernel_rfl) (by kernel_rfl) (by decide) ((Jly (by kernel_rfl)).mono (λ a ⟨n, h, e⟩ => ⟨n, h, e⟩) λ a ⟨n, h, e⟩ => ⟨n, h, e⟩)).mono
  (λ a ⟨l, h, h1, e⟩ => ⟨l, h, h1, e⟩) λ a ⟨l, h, h1, e⟩ => ⟨l, h, h1, e⟩
def OT (a : AV) : Prop := ∃ x y z : Int, R64 x /\ R64 y /\ R64 z /\ a = .agg [I x, I y, I z]
theorem Ju9 : Jb5 prog enc w 107 OT :=
 (Jey (T := Int) (q := R64) (f := I) (e := 3) (n := 3) (sz := 1) (by kernel_rfl) (by kernel_rfl) (by kernel_rfl) (Jly (by kernel_rfl))).mono
  (λ a ⟨l, h, h1, e⟩ => by
   match l, h with
   | [x, y, z], _ => exact ⟨x, y, z, h1 x (by simp), h1 y (by simp), h1 z (by simp), e⟩)
  λ a ⟨x, y, z, h1, h2, h3, e⟩ => ⟨[x, y, z], rfl, by simp [h1, h2, h3], e⟩
def OT1 (a : AV) : Prop := ∃ q : T3, T3ok q /\ a = QT q
theorem Jsw : Jb5 prog enc w 107 OT1 :=
 Ju9.mono (λ a ⟨x, y, z, h1, h2, h3, e⟩ => ⟨(x, y, z), ⟨h1, h2, h3⟩, e⟩) λ a ⟨q, h, e⟩ => ⟨q.1, q.2.1, q.2.2, h.1, h.2.1, h.2.2, e⟩
def OTS (a : AV) : Prop := ∃ l : List T3, l.length <= 9223372036854775807 /\ (∀ x ∈ l, T3ok x) /\ a = QTS l
theorem JmI : Jb5 prog enc w 23 OTS :=
 (Jco (T := T3) (q := T3ok) (f := QT) (e := 107) (sz := 3) (by kernel_rfl) (by kernel_rfl) (by decide) Jsw).mono
  (λ a ⟨l, h, h1, e⟩ => ⟨l, h, h1, e⟩) λ a ⟨l, h, h1, e⟩ => ⟨l, h, h1, e⟩
def OC (a : AV) : Prop := ∃ y : Cr, y.ok /\ a = CRP y
theorem Jsv : Jb5 prog enc w 96 OC :=
 (Jf8 (ps := [OI, OI, OSL, OTS]) (Tryz.underlying96) ⟨Jly (by kernel_rfl), Jly (by kernel_rfl), JmH, JmI, trivial⟩ (by kernel_rfl) (by kernel_rfl)).mono
  (λ a h => by
   obtain ⟨g, i, rfl⟩ := h
   revert i
   exact Jxc (Q := λ l => OC (AV.agg (l.flatMap AV.cells))) (λ a b c d ⟨f, h1, e1⟩ ⟨m, h2, e2⟩ ⟨k, h3, h4, e3⟩ ⟨q, h5, h6, e4⟩ => ⟨⟨f, m, k, q⟩, ⟨h1, h2, h4, h3, h6, h5⟩, by subst e1; subst e2; subst e3; subst e4; rfl⟩) g)
  λ a ⟨u, h, e⟩ => ⟨[I u.d, I u.s, SL u.r, QTS u.at_], ⟨⟨u.d, h.1, rfl⟩, ⟨u.s, h.2.1, rfl⟩, ⟨u.r, h.2.2.2.1, h.2.2.1, rfl⟩, ⟨u.at_, h.2.2.2.2.2, h.2.2.2.2.1, rfl⟩, trivial⟩, e⟩
end
section
variable {H : Type} {enc : TypeId × Value -> H} {w : World}
def OP (a : AV) : Prop := ∃ x y : Int, R64 x /\ R64 y /\ a = .agg [I x, I y]
theorem Jys : Jb5 prog enc w 105 OP :=
 (Jey (T := Int) (q := R64) (f := I) (e := 3) (n := 2) (sz := 1) (by kernel_rfl) (by kernel_rfl) (by kernel_rfl) (Jly (by kernel_rfl))).mono
  (λ a ⟨l, h, h1, e⟩ => by
   match l, h with
   | [x, y], _ => exact ⟨x, y, h1 x (by simp), h1 y (by simp), e⟩)
  λ a ⟨x, y, h1, h2, e⟩ => ⟨[x, y], rfl, by simp [h1, h2], e⟩
def OP1 (a : AV) : Prop := ∃ q : Int × Int, (R64 q.1 /\ R64 q.2) /\ a = HPP q
theorem Ju7 : Jb5 prog enc w 105 OP1 :=
 Jys.mono (λ a ⟨x, y, h1, h2, e⟩ => ⟨(x, y), ⟨h1, h2⟩, e⟩) λ a ⟨q, h, e⟩ => ⟨q.1, q.2, h.1, h.2, e⟩
def OPS (a : AV) : Prop := ∃ l : List (Int × Int), l.length <= 9223372036854775807 /\ (∀ x ∈ l, R64 x.1 /\ R64 x.2) /\ a = HPS l
theorem Ju8 : Jb5 prog enc w 22 OPS :=
 (Jco (T := Int × Int) (q := λ x => R64 x.1 /\ R64 x.2) (f := HPP) (e := 105) (sz := 2) (by kernel_rfl) (by kernel_rfl) (by decide) Ju7).mono
  (λ a ⟨l, h, h1, e⟩ => ⟨l, h, h1, e⟩) λ a ⟨l, h, h1, e⟩ => ⟨l, h, h1, e⟩
def OQ1 (a : AV) : Prop := ∃ x : Q4, Q4ok x /\ a = QP x
theorem Jyr : Jb5 prog enc w 139 OQ1 :=
 (Jey (T := Int) (q := R64) (f := I) (e := 3) (n := 4) (sz := 1) (by kernel_rfl) (by kernel_rfl) (by kernel_rfl) (Jly (by kernel_rfl))).mono
  (λ a ⟨l, h, g, e⟩ => by
   match l, h with
   | [x, y, z, u], _ => exact ⟨⟨x, y, z, u⟩, ⟨g x (by simp), g y (by simp), g z (by simp), g u (by simp)⟩, e⟩)
  λ a ⟨x, h, e⟩ => ⟨[x.a, x.b, x.c, x.d], rfl, by obtain ⟨g, i, j, k⟩ := h; simp [g, i, j, k], e⟩
def OQ (a : AV) : Prop := ∃ l : List Q4, l.length <= 9223372036854775807 /\ (∀ x ∈ l, Q4ok x) /\ a = QL l
theorem Ju6 : Jb5 prog enc w 26 OQ :=
 (Jco (T := Q4) (q := Q4ok) (f := QP) (e := 139) (sz := 4) (by kernel_rfl) (by kernel_rfl) (by decide) Jyr).mono
  (λ a ⟨l, h, h1, e⟩ => ⟨l, h, h1, e⟩) λ a ⟨l, h, h1, e⟩ => ⟨l, h, h1, e⟩
def OCS (a : AV) : Prop := ∃ l : List Cr, l.length <= 9223372036854775807 /\ (∀ x ∈ l, x.ok) /\ a = CRS l
theorem Jqk : Jb5 prog enc w 24 OCS :=
 (Jco (T := Cr) (q := Cr.ok) (f := CRP) (e := 96) (sz := 4) (by kernel_rfl) (by kernel_rfl) (by decide) Jsv).mono
  (λ a ⟨l, h, h1, e⟩ => ⟨l, h, h1, e⟩) λ a ⟨l, h, h1, e⟩ => ⟨l, h, h1, e⟩
def ON (a : AV) : Prop := ∃ x : Nm, x.ok /\ a = NMP x
theorem Jql : Jb5 prog enc w 28 ON :=
 (Jf8 (ps := [OPS, OTS, OCS, OSL, OQ, OSL, OSL]) (Tryz.underlying28) ⟨Ju8, JmI, Jqk, JmH, Ju6, JmH, JmH, trivial⟩ (by kernel_rfl) (by kernel_rfl)).mono
  (λ a h => by
   obtain ⟨i, j, rfl⟩ := h
   revert j
   exact Jxd (Q := λ l => ON (AV.agg (l.flatMap AV.cells))) (λ a b c d e f g ⟨k, h1, i1, e1⟩ ⟨x2, h2, i2, e2⟩ ⟨x3, h3, i3, e3⟩ ⟨x4, h4, i4, e4⟩ ⟨x5, h5, i5, e5⟩ ⟨x6, h6, i6, e6⟩ ⟨x7, h7, i7, e7⟩ =>
    ⟨⟨k, x2, x3, x4, x5, x6, x7⟩, ⟨i1, h1, i2, h2, i3, h3, i4, h4, i5, h5, i6, h6, i7, h7⟩, by subst e1; subst e2; subst e3; subst e4; subst e5; subst e6; subst e7; rfl⟩) i)
  λ a ⟨u, h, e⟩ => ⟨[HPS u.hops, QTS u.legs, CRS u.crs, SL u.bases, QL u.rates, SL u.offs, SL u.wit], ⟨⟨_, h.hopsL, h.hops, rfl⟩, ⟨_, h.legsL, h.legs, rfl⟩, ⟨_, h.crsL, h.crs, rfl⟩, ⟨_, h.basesL, h.bases, rfl⟩, ⟨_, h.ratesL, h.rates, rfl⟩, ⟨_, h.offsL, h.offs, rfl⟩, ⟨_, h.witL, h.wit, rfl⟩, trivial⟩, e⟩
end
end Go.Proofs.YtlecbpkidomjbaaGreatDoor

/- Trips; the chapter's examples; the frame -/
import Derived.Test.YtnpbhgeffapojaaGreatDoorKH
import Derived.Test.YtnpbhgeffapojaaGreatDoorRows
import Derived.Test.YtnpbhgeffapojaaGreatDoorCards
import Derived.Test.YtnpbhgeffapojaaGreatDoorTie
import Derived.ProofKit
import Derived.LaidMore
import Derived.OpenShut
import Derived.Stop.Joined
import Derived.Handed
import Derived.Lay
set_option linter.all false
set_option maxRecDepth 100000
namespace Go.Proofs.YtnpbhgeffapojaaGreatDoor
open Go.Proofs.Tryz
open Go.Vai Go Go.Proofs
theorem JgX : ∀ (n : Nat) (l : List ByteArray) (i : Nat), l.length <= n -> (Jbd l i).length <= l.length
 | 0, l, i, c => by
  have b : Jbd l i = [] := Jbn JaV Ja1 empF (by omega) i
  rw [b]; exact L14 _
 | n + 1, l, i, c => by
  by_cases h : 2 <= l.length
  . have d := JbU (n := l.length) (by omega)
    have f := Jbs l.length; rw [JdL h]
    split
    . have := JgX n (l.take (Jax l.length)) i (by rw [L03]; omega)
      rw [L03] at this
      rw [L0g]; omega
    . have := JgX n (l.drop (Jax l.length)) (i - Jax l.length) (by rw [L0f]; omega)
      rw [L0f] at this
      rw [L0g]; omega
  . have b : Jbd l i = [] := Jbn JaV Ja1 empF (by omega) i
    rw [b]; exact L14 _
theorem Jg9 {key : ByteArray} {r : Rg} {n : Int} {l : List Int} {p : Pt} (h : JdX key r n l = some p) (m : l.length <= 9223372036854775807) : PtOK p := by
 obtain ⟨_, g, d⟩ := Jb8 h
 unfold JdX at h
 split at h
 . rename_i k; obtain ⟨q, c, s, o⟩ := k; have c := Jbu.1 c
   have b : ∀ j : Nat, (gd r.l j).size <= 1000 := fun j => by
    by_cases hj : j < r.l.length
    . exact c.2.2 _ (Jao _ _ hj)
    . rw [Jiw _ _ (by omega)]; exact L14 _
   refine ⟨?_, ?_, ?_⟩
   . rw [g]; simp only [JeC]; rw [Jca]; omega
   . rw [d, L04]; exact m
   . intro x f
     rw [d] at f
     obtain ⟨i, _, rfl⟩ := L08.1 f
     refine ⟨?_, ?_⟩
     . have := b i.toNat; simp only [JbD]; omega
     . have := JgX (r.l.take n.toNat).length (r.l.take n.toNat) i.toNat (L09 _)
       rw [L03] at this
       show (Jbd (r.l.take n.toNat) i.toNat).reverse.length <= _
       rw [L1l]; omega
 . cases h
theorem Jic (n : Nat) (i : Int) (hi : 0 <= i /\ i < n) : ∀ (l : List Int) (o : Option Int), (∀ q, o = some q -> q < i) -> (∀ q ∈ l, q < i) -> ascN n o l = true -> ascN n o (l ++ [i]) = true
 | [], o, d, _, _ => by
  rw [L1P, ascN, ascN, Bool.and_true, decide_eq_true_iff]; exact ⟨hi, d⟩
 | x :: l, o, d, c, h => by
  rw [ascN, L00] at h; rw [L0A, ascN, L00]
  exact ⟨h.1, Jic n i hi l (some x) (fun q b => by cases b; exact c _ (by simp)) (fun q b => c q (L1i _ b)) h.2⟩
theorem Jlw (w : List Int) : ∀ i, ∀ q ∈ witN w i, 0 <= q /\ q < i
  | 0, q, h => by cases h
  | i + 1, q, h => by
    rw [witN] at h
    rcases L0z.1 h with h | h
    . have := Jlw w i q h; omega
    . split at h
      . obtain rfl := L0p.1 h; omega
      . cases h
theorem Jmu (w : List Int) (n : Nat) : ∀ i, i <= n -> ascN n none (witN w i) = true
  | 0, _ => rfl
  | i + 1, h => by
    have ih := Jmu w n i (by omega)
    rw [witN]
    split
    . exact Jic n i (by omega) _ _ (fun q hq => by cases hq) (fun q hq => (Jlw w i q hq).2) ih
    . rw [L0F]; exact ih
theorem Jf7 (w : List Int) : ∀ i, (witN w i).length <= i
 | 0 => L09 _
 | i + 1 => by
  have := Jf7 w i
  rw [witN, L07]
  split <;> simp <;> omega
theorem JpB (l : Lg) (e : Int) : (recF l e).size <= 60 := by
 unfold recF recN; simp only [L0T]; have c := JaP 8; have d := JaP l.f; have h := JaP l.t; have i := JaP e
 have j := JaP (if e = 1 then l.g else l.k).b
 have m := JaP (if e = 1 then l.g else l.k).e
 omega
theorem Jqe (n : Nat) (j : Nat) : (gd (upsN n) j).size <= 8 := by
 by_cases hj : j < (upsN n).length
 . have b := Jao (upsN n) j hj; generalize gd (upsN n) j = s at *
   obtain ⟨v, _, rfl⟩ := L08.1 b
   exact L09 _
 . rw [Jiw _ _ (by omega)]; exact L14 _
theorem Jqi (n : Nat) (legs : List Lg) (w : Int) : (witE JaO (upsN n) legs w).size <= 1000 := by
 unfold witE
 split
 . have := Jqe n (Jaf (w.tdiv 3) (upsN n).length).toNat; omega
 . split
   . have := JpB (gd legs (Jaf (w.tdiv 6) legs.length).toNat) (1 + Jaf (w.tdiv 3) 2); omega
   . exact L0y rfl
theorem JoU (c : Int) : keyS c = keyF c := rfl
theorem Ji6 (n : Nat) (legs : List Lg) (w : List Int) : JdX (keyS 0) (witR JaO (upsN n) legs w) (min w.length 12 : Nat) (witN w (min w.length 12)) = some (witP JaO (upsN n) legs w) := by
 have b : (witR JaO (upsN n) legs w).l.length = min w.length 12 := by simp only [witR, L04, L03]; omega
 unfold JdX; rw [if_pos, L1a]
 . rfl
 . refine ⟨JeE 0, Jbu.2 ⟨?_, by rw [b]; omega, fun s c => ?_⟩, by rw [b]; omega, ?_⟩
   . simp only [witR]; omega
   . obtain ⟨x, _, rfl⟩ := L08.1 c
     exact Jqi n legs x
   . rw [L1a]; exact Jmu w _ _ (L09 _)
theorem Jkr (n : Nat) (legs : List Lg) (w : List Int) : Jbj (keyS 0) (witP JaO (upsN n) legs w) = true := (Jb8 (Ji6 n legs w)).1
theorem Jy0 (n : Nat) (legs : List Lg) (w : List Int) : PtOK (witP JaO (upsN n) legs w) := by
 refine Jg9 (Ji6 n legs w) ?_
 have := Jf7 w (min w.length 12)
 omega
theorem JiG (b : List (Int × Int)) : ∀ (l : List Lg) (v : Nat), (∀ i, i < l.length -> legF (gd l i) = true /\ (gd l i).f = (gd b (v + i)).1 /\ (gd l i).t = (gd b (v + i + 1)).1) -> Jff b v l = true
 | [], _, _ => rfl
 | x :: l, v, h => by
  rw [Jff, L00, L00, decide_eq_true_iff]
  have c := h 0 (by simp)
  rw [Jan] at c
  refine ⟨c, JiG b l (v + 1) fun i d => ?_⟩
  have := h (i + 1) (by simpa using d)
  rw [Jaj, show v + (i + 1) = v + 1 + i by omega] at this
  exact this
theorem Jdq (x : Nm) (b : List (Int × Int)) : (Jhj x b).length = b.length - 1 := by simp [Jhj]
theorem Jl5 (x : Nm) (b : List (Int × Int)) {i : Nat} (h : i < b.length - 1) : gd (Jhj x b) i = legM x b i := by simp [Jhj, gd, h]
theorem Jbl (n : Nat) : (upsN n).length = n := by simp [upsN]
theorem Jl0 (x : List (Int × Int)) : 0 <= (Jcx x).2 /\ (Jcx x).2 <= 20 := by
 have h := Jdp x
 exact (JdF x _ (Jao (JaA x) _ (by omega))).2
theorem Ja7 (x : Nm) : Jda (Jav x) = true := by
  have hl := Jdp x.hops; have h2 := Jl0 x.hops
  have hup : ((upsN ((Jcx x.hops).2 + 2).toNat).length : Int) = (Jcx x.hops).2 + 2 := by rw [Jbl]; omega
  unfold Jda; simp only [L00, decide_eq_true_iff, L0b]
  refine ⟨Jkr _ _ _, ⟨⟨hl.1, by simp only [Jav]; omega⟩, Jdq _ _, by simp [Jav], by simp [Jav], by simp [Jav], ?_⟩, ?_, ?_, ?_, ?_, ?_⟩
  . simp only [Jav]; omega
  . intro c hc
    obtain ⟨i, _, rfl⟩ := L08.1 hc
    exact (JqP _ _ _ _).2
  . intro c hc
    obtain ⟨i, _, rfl⟩ := L08.1 hc
    exact Jr4 _ _
  . intro c hc
    obtain ⟨i, _, rfl⟩ := L08.1 hc
    exact Juz _ _
  . refine Jiz _ _ _ (fun h hh => ?_) (fun v hv => ?_)
    . obtain ⟨i, hi, rfl⟩ : ∃ i, i < (JaA x.hops).length /\ gd (JaA x.hops) i = h := by
        have hh' : h ∈ JaA x.hops := hh
        obtain ⟨i, hi, e⟩ := List.mem_iff_getElem.1 hh'
        exact ⟨i, hi, by rw [gd, L19, L06 hi]; exact e⟩
      have a := JdF x.hops _ hh
      have b := JlU x.hops ((JaA x.hops).length - 1 - i) i (by omega) (by omega)
      refine ⟨a.1, by omega, ?_⟩
      show _ < (((upsN ((Jcx x.hops).2 + 2).toNat).length : Nat) : Int)
      omega
    . show (gd ((-1, 0) :: JaA x.hops) (v + 1)).1 ≠ _ /\ _
      have hv' : v < (JaA x.hops).length := hv
      show (gd ((-1, 0) :: JaA x.hops) (v + 1)).1 ≠ (gd ((-1, 0) :: JaA x.hops) v).1 /\ (gd ((-1, 0) :: JaA x.hops) v).2 <= (gd ((-1, 0) :: JaA x.hops) (v + 1)).2
      rw [Jaj]
      cases v with
      | zero =>
        have a := JdF x.hops _ (Jao (JaA x.hops) 0 hv'); rw [Jan]
        simp only
        omega
      | succ v =>
        rw [Jaj]
        exact Jfa x.hops hv'
  . refine JiG _ _ _ fun i hi => ?_
    have hi' : i < (JaA x.hops).length - 1 := by rw [<- Jdq x]; exact hi
    show legF (gd (Jhj x (JaA x.hops)) i) = true /\ (gd (Jhj x (JaA x.hops)) i).f = _ /\ (gd (Jhj x (JaA x.hops)) i).t = _
    rw [Jl5 _ _ hi', L0n]
    exact ⟨JoY x (by omega), rfl, rfl⟩
abbrev HPP (h : Int × Int) : AV := .agg [I h.1, I h.2]
abbrev LGS (l : List Lg) : AV := .sl 6 (l.map LGP)
abbrev TPP (t : Tp) : AV := .agg [HPS t.hops, LGS t.legs, CKS t.cks, TFS t.tfs, SL t.offs, Str t.key, I t.part.h.c, I t.part.h.n, Str t.part.h.r, Str t.part.h.s, ITS t.part.l, Str t.call, SLs t.ups]
abbrev TRP (t : Tp) : AV := .agg [HPS t.hops, LGS t.legs, CKS t.cks, TFS t.tfs, SL t.offs, Str t.key, I t.part.h.c, I t.part.h.n, Str t.part.h.r, Str t.part.h.s, ITS t.part.l, Str t.call, SLs t.ups, .mp ((evM (evF t.key t.part)).map entS)]
section
variable (p : Nat -> Bool) (l : List Lg)
@[go_sem] theorem Jv0 : AV.namesL p (l.map LGP) = false := Jal p l LGP fun _ => rfl
@[go_sem] theorem JxA : AV.flatL (l.map LGP) = true := Ja6 l LGP fun _ => rfl
@[go_sem] theorem JwG : JbA 6 (l.map LGP) = true := JaG 6 l LGP fun _ => ⟨rfl, rfl⟩
end
section
variable (p : Nat -> Bool) (l : List (Int × Int))
@[go_sem] theorem JvY : AV.namesL p (l.map HPP) = false := Jal p l HPP fun _ => rfl
@[go_sem] theorem Jxz : AV.flatL (l.map HPP) = true := Ja6 l HPP fun _ => rfl
@[go_sem] theorem JwE : JbA 2 (l.map HPP) = true := JaG 2 l HPP fun _ => ⟨rfl, rfl⟩
end
structure Tp.ok (t : Tp) : Prop where
 part : PtOK t.part
 rds : ∀ c ∈ t.cks, c.r.length <= 9223372036854775807
 good : ∀ x ∈ t.tfs, JbO x = true
 hops : t.hops.length <= 9223372036854775807
 legs : t.legs.length <= 9223372036854775807
 cks : t.cks.length <= 9223372036854775807
 tfs : t.tfs.length <= 9223372036854775807
 offs : t.offs.length <= 9223372036854775807
 ups : t.ups.length <= 9223372036854775807
theorem Jrv (c : Ck) (b : c.r.length <= 9223372036854775807) : Ev prog 101 [CKP c] (B (!Jb3 c)) := by
 refine EV func101 ?_
 simp -implicitDefEqProofs (disch := omega) only [go_sem, ntmps101]
 refine Jaa (Jhq c b) ?_
 simp -implicitDefEqProofs (disch := omega) only [go_sem, results101]
theorem Jrw (x : Tf) (h : JbO x = true) : Ev prog 104 [TF x] (B (!JbO x)) := by
 rw [h]
 refine EV func104 ?_
 simp -implicitDefEqProofs (disch := omega) only [go_sem, ntmps104]
 refine Jaa (Jf6 x h) ?_
 simp -implicitDefEqProofs (disch := omega) only [go_sem, results104]
theorem Jrx (n : Int) : Ev prog 107 [I n] (B (!Jdf n)) := by
 refine EV func107 ?_
 simp -implicitDefEqProofs (disch := omega) only [go_sem, ntmps107]
 refine Jaa (JcY n (-50400) 50400) ?_
 simp -implicitDefEqProofs (disch := omega) only [go_sem, results107]; try rfl
theorem Jus {T : Type} (Q : T -> Bool) (l : List T) : (l.any fun x => !Q x) = !l.all Q := by rw [<- Jkw, Bool.not_not]
abbrev opV (z : Bool) (r : AV) : AV := if z = true then .tup [r, I 0] else .tup [.v (.pointer none), I 380]
set_option maxHeartbeats 8000000 in
theorem Jmb (t : Tp) (ht : t.ok) : Ev prog 64 [TPP t] (opV (Jda t) (.nptr 190 14 [TRP t])) := by
 obtain ⟨o1, o2, o3, o4, o5, o6, o7, o8, o9⟩ := ht; have R := Jlc t.key t.part o1
 have S := JtX 101 [] (fun c => !Jb3 c) t.cks (fun c F => Jrv c (o2 c F)) (fun _ => rfl) (fun _ => rfl) o6
 have T := Jt0 104 [] (fun c => !JbO c) t.tfs (fun c F => Jrw c (o3 c F)) (fun _ => rfl) (fun _ => rfl) o7
 have U := JtZ 107 [] (fun c => !Jdf c) t.offs (fun c F => Jrx c) (fun _ => rfl) (fun _ => rfl) o8
 rw [Jus] at S T U
 have d : Jda t = (Jbj t.key t.part && (decide ((1 <= t.hops.length /\ t.hops.length <= 12) /\ t.legs.length = t.hops.length - 1 /\ t.cks.length = 8 /\ t.tfs.length = 8 /\ t.offs.length = 8 /\ t.ups.length <= 30) &&
  (t.cks.all Jb3 && (t.tfs.all JbO && (t.offs.all Jdf && (JgA t.ups.length (-1, 0) t.hops && Jff t.hops 0 t.legs)))))) := rfl
 obtain ⟨N, hN⟩ := Jez (evF t.key t.part)
 simp only [TRP, opV]; rw [hN] at R ⊢; generalize Jda t = z at *; generalize Jbj t.key t.part = g at *; generalize t.cks.all Jb3 = b1 at *; generalize t.tfs.all JbO = b2 at *; generalize t.offs.all Jdf = b3 at *
 obtain ⟨hops, legs, cks, tfs, offs, L, ⟨⟨pc, pn, pr, ps⟩, pl⟩, G, ups⟩ := t
 simp only at *
 clear hN o1 o2 o3
 refine EV func64 ?_
 simp -implicitDefEqProofs (disch := omega) only [go_sem, ntmps64]
 refine Jaa R ?_
 cases g with
 | false =>
  rw [L0d] at d; subst d; simp -implicitDefEqProofs (disch := omega) only [go_sem, results64]
 | true =>
 rw [L0k] at d; simp -implicitDefEqProofs (disch := omega) only [go_sem]
 refine Jaa (JcY hops.length 1 12) ?_
 by_cases h1 : 1 <= (hops.length : Int) /\ (hops.length : Int) <= 12
 rotate_left
 . rw [decide_eq_false (by omega), L0d] at d
   rw [decide_eq_false h1]; subst d; simp -implicitDefEqProofs (disch := omega) only [go_sem, results64]
 rw [decide_eq_true h1]; simp -implicitDefEqProofs (disch := omega) only [go_sem]
 refine Jab (fun V => ?_) (fun V => ?_)
 . rw [decide_eq_false (by omega), L0d] at d
   subst d; simp -implicitDefEqProofs (disch := omega) only [go_sem, V, results64]
 simp -implicitDefEqProofs (disch := omega) only [go_sem]
 refine Jab (fun W => ?_) (fun W => ?_)
 . rw [decide_eq_false (by omega), L0d] at d
   subst d; simp -implicitDefEqProofs (disch := omega) only [go_sem, W, results64]
 simp -implicitDefEqProofs (disch := omega) only [go_sem]
 refine Jab (fun X => ?_) (fun X => ?_)
 . rw [decide_eq_false (by omega), L0d] at d
   subst d; simp -implicitDefEqProofs (disch := omega) only [go_sem, X, results64]
 simp -implicitDefEqProofs (disch := omega) only [go_sem]
 refine Jab (fun Y => ?_) (fun Y => ?_)
 . rw [decide_eq_false (by omega), L0d] at d
   subst d; simp -implicitDefEqProofs (disch := omega) only [go_sem, Y, results64]
 simp -implicitDefEqProofs (disch := omega) only [go_sem]
 refine Jab (fun Z => ?_) (fun Z => ?_)
 . rw [decide_eq_false (by omega), L0d] at d
   subst d; simp -implicitDefEqProofs (disch := omega) only [go_sem, Z, results64]
 simp -implicitDefEqProofs (disch := omega) only [go_sem]
 rw [decide_eq_true (by omega), L0k] at d
 refine Jaa S ?_
 cases b1 with
 | false =>
  rw [L0d] at d; subst d; simp -implicitDefEqProofs (disch := omega) only [go_sem, results64]
 | true =>
 rw [L0k] at d; simp -implicitDefEqProofs (disch := omega) only [go_sem]
 refine Jaa T ?_
 cases b2 with
 | false =>
  rw [L0d] at d; subst d; simp -implicitDefEqProofs (disch := omega) only [go_sem, results64]
 | true =>
 rw [L0k] at d; simp -implicitDefEqProofs (disch := omega) only [go_sem]
 refine Jaa U ?_
 cases b3 with
 | false =>
  rw [L0d] at d; subst d; simp -implicitDefEqProofs (disch := omega) only [go_sem, results64]
 | true =>
 rw [L0k] at d; simp -implicitDefEqProofs (disch := omega) only [go_sem]
 refine Jag (fun n E J => ∃ (i : Nat) (C : Int × Int), i + n = hops.length /\ z = (JgA ups.length C (hops.drop i) && Jff hops 0 legs) /\ E 1 = .ptr 136314896 13 0 0 /\ E 4 = .mp ((mI N).map entS) /\ E 6 = .ptr 136314976 2 0 0 /\ E 77 = HPS hops /\ E 78 = I hops.length /\ E 79 = I i /\
  J 136314896 = some ⟨52, 13, [.agg [HPS hops, LGS legs, CKS cks, TFS tfs, SL offs, Str L, I pc, I pn, Str pr, Str ps, ITS pl, Str G, SLs ups]]⟩ /\ J 136314976 = some ⟨88, 2, [.agg [I C.1, I C.2]]⟩) hops.length ⟨0, (-1, 0), by omega, d, ?_⟩ ?_
 . simp -implicitDefEqProofs (disch := omega) only [go_sem]; try rfl
 clear d
 rintro n E J ⟨i, ⟨la, lb⟩, hi, d, q, s, y, m, o, p, u, B⟩
 simp -implicitDefEqProofs (disch := omega) only [go_sem, q, s, y, m, o, p, u, B]
 refine Jab (fun F => ?_) (fun F => ?_)
 . have H : i < hops.length := by omega
   rw [JaY hops i H, JgA, L1v] at d; generalize D : gd hops i = h at *; obtain ⟨P, Q⟩ := h
   simp only at *
   simp -implicitDefEqProofs (disch := omega) only [go_sem, D, q, s, y, m, o, p, u, B]
   refine Jaa (JcX P) ?_
   by_cases M : 0 <= P /\ P <= 7
   rotate_left
   . rw [decide_eq_false (by omega), L0d] at d
     rw [decide_eq_false M]; subst d; simp -implicitDefEqProofs (disch := omega) only [go_sem, D, q, s, y, m, o, p, u, B, results64]
   rw [decide_eq_true M]; simp -implicitDefEqProofs (disch := omega) only [go_sem, D, q, s, y, m, o, p, u, B]
   refine Jab (fun O => ?_) (fun O => ?_)
   . rw [decide_eq_false (by omega), L0d] at d
     subst d; simp -implicitDefEqProofs (disch := omega) only [go_sem, D, O, q, s, y, m, o, p, u, B, results64]
   simp -implicitDefEqProofs (disch := omega) only [go_sem, D, q, s, y, m, o, p, u, B]
   refine Jaa (JcY Q lb 29) ?_
   by_cases q3 : lb <= Q /\ Q <= 29
   rotate_left
   . rw [decide_eq_false (by omega), L0d] at d
     rw [decide_eq_false q3]; subst d; simp -implicitDefEqProofs (disch := omega) only [go_sem, D, q, s, y, m, o, p, u, B, results64]
   rw [decide_eq_true q3]; simp -implicitDefEqProofs (disch := omega) only [go_sem, D, q, s, y, m, o, p, u, B]
   refine Jab (fun q4 => ?_) (fun q4 => ?_)
   . rw [decide_eq_false (by omega), L0d] at d
     subst d; simp -implicitDefEqProofs (disch := omega) only [go_sem, D, q4, q, s, y, m, o, p, u, B, results64]
   rw [decide_eq_true (by omega), L0k] at d
   simp -implicitDefEqProofs (disch := omega) only [go_sem, D, q, s, y, m, o, p, u, B]
   refine Jad (hops.length - (i + 1)) (by omega) ⟨i + 1, (P, Q), by omega, d, ?_⟩
   simp -implicitDefEqProofs (disch := omega) only [go_sem, D, q, s, y, m, o, p, u, B]; try rfl
 obtain rfl : i = hops.length := by omega
 rw [L0K, JgA, L0k] at d; simp -implicitDefEqProofs (disch := omega) only [go_sem, q, s, y, m, o, p, u, B]; clear y m o p B F hi
 have K : z = Jff hops 0 (legs.drop 0) := d
 refine Jag (fun n E J => ∃ (i : Nat), i + n = legs.length /\ z = Jff hops i (legs.drop i) /\ E 1 = .ptr 136314896 13 0 0 /\ E 4 = .mp ((mI N).map entS) /\ E 113 = LGS legs /\ E 114 = I legs.length /\ E 115 = I i /\
  J 136314896 = some ⟨52, 13, [.agg [HPS hops, LGS legs, CKS cks, TFS tfs, SL offs, Str L, I pc, I pn, Str pr, Str ps, ITS pl, Str G, SLs ups]]⟩) legs.length ⟨0, by omega, K, ?_⟩ ?_
 . simp -implicitDefEqProofs (disch := omega) only [go_sem, q, s, u]; try rfl
 clear d K q s u E J n
 rintro n E J ⟨i, hi, d, q, s, f, j, k, u⟩
 simp -implicitDefEqProofs (disch := omega) only [go_sem, q, s, f, j, k, u]
 refine Jab (fun F => ?_) (fun F => ?_)
 . have H : i < legs.length := by omega
   have aa : i + 1 < hops.length := by omega
   rw [JaY legs i H, Jff, L1v] at d; have c3 := JfZ (gd legs i); generalize w : gd legs i = l at *; generalize legF l = b at *; obtain ⟨lf, lt, lg, lk⟩ := l
   simp only at *
   simp -implicitDefEqProofs (disch := omega) only [go_sem, w, q, s, f, j, k, u]
   refine Jaa c3 ?_
   cases b with
   | false =>
    rw [L0d] at d; subst d; simp -implicitDefEqProofs (disch := omega) only [go_sem, w, q, s, f, j, k, u, results64]
   | true =>
   rw [L0k] at d
   have A : ((i : Int) + 1).toNat = i + 1 := by omega
   simp -implicitDefEqProofs (disch := omega) only [go_sem, w, q, s, f, j, k, u, A]
   refine Jab (fun M => ?_) (fun M => ?_)
   . rw [decide_eq_false (by omega), L0d] at d
     subst d; simp -implicitDefEqProofs (disch := omega) only [go_sem, w, M, q, s, f, j, k, u, A, results64]
   simp -implicitDefEqProofs (disch := omega) only [go_sem, w, q, s, f, j, k, u, A]
   refine Jab (fun O => ?_) (fun O => ?_)
   . rw [decide_eq_false (by omega), L0d] at d
     subst d; simp -implicitDefEqProofs (disch := omega) only [go_sem, w, O, q, s, f, j, k, u, A, results64]
   rw [decide_eq_true (by omega), L0k] at d
   simp -implicitDefEqProofs (disch := omega) only [go_sem, w, q, s, f, j, k, u, A]
   refine Jad (legs.length - (i + 1)) (by omega) ⟨i + 1, by omega, d, ?_⟩
   simp -implicitDefEqProofs (disch := omega) only [go_sem, w, q, s, f, j, k, u, A]; try rfl
 obtain rfl : i = legs.length := by omega
 rw [L0K, Jff] at d; subst d; simp -implicitDefEqProofs (disch := omega) only [go_sem, q, s, f, j, k, u, results64]
theorem Jk6 (t : Tp) (b : t.ok) (h : Jda t = true) : Ev prog 64 [TPP t] (.tup [.pt (TRP t) 0, I 0]) := by
 have := Jmb t b
 rw [h] at this
 exact Je6 (r := .tup [.nptr 190 14 [TRP t], I 0]) this _
theorem Jry (t : Tp) (b : t.ok) (h : Jda t = false) : Ev prog 64 [TPP t] (.tup [.v (.pointer none), I 380]) := by
 have := Jmb t b
 rw [h] at this; exact this
theorem JaT {t : Tp} : Jda t = true ↔ Jbj t.key t.part = true /\ ((1 <= t.hops.length /\ t.hops.length <= 12) /\ t.legs.length = t.hops.length - 1 /\ t.cks.length = 8 /\ t.tfs.length = 8 /\ t.offs.length = 8 /\ t.ups.length <= 30) /\
 t.cks.all Jb3 = true /\ t.tfs.all JbO = true /\ t.offs.all Jdf = true /\ JgA t.ups.length (-1, 0) t.hops = true /\ Jff t.hops 0 t.legs = true := by
 unfold Jda; simp only [L00, decide_eq_true_iff]
theorem Jr6 {t : Tp} (h : Jda t = true) {i : Nat} (hi : i < t.hops.length) : (0 <= (gd t.hops i).1 /\ (gd t.hops i).1 <= 7) /\ (0 <= (gd t.hops i).2 /\ (gd t.hops i).2 <= 29) /\ (gd t.hops i).2 < t.ups.length :=
 JoG t.ups.length t.hops (-1, 0) (JaT.1 h).2.2.2.2.2.1 i hi
theorem Jmr {t : Tp} (h : Jda t = true) {i : Nat} (hi : i < t.legs.length) : legF (gd t.legs i) = true /\ (gd t.legs i).f = (gd t.hops i).1 /\ (gd t.legs i).t = (gd t.hops (i + 1)).1 := by
 have := JoZ t.hops t.legs 0 (JaT.1 h).2.2.2.2.2.2 i hi
 rw [L0n] at this; exact this
set_option maxHeartbeats 2000000 in
theorem Jme (t : Tp) (h : Jda t = true) (i : Nat) (hi : i < t.legs.length) : Ev prog 71 [.pt (TRP t) 0, I i] (I (payF t i)) := by
 have B := (JaT.1 h).2.1
 have s := fun i => Jr6 h (i := i)
 have c : payF t i = if i = 0 then (gd t.hops 0).1
  else if (gd t.hops (i - 1)).2 + 1 < t.ups.length /\ JaK (evF t.key t.part) (gd t.ups ((gd t.hops (i - 1)).2 + 1).toNat) t.call = 1 then (gd t.hops (i - 1)).1
  else (gd t.hops i).1 := rfl
 have l := Jis (evF t.key t.part) (gd t.ups ((gd t.hops (i - 1)).2 + 1).toNat) t.call
 obtain ⟨N, o⟩ := Jez (evF t.key t.part)
 simp only [TRP] at *; rw [o] at l ⊢; generalize payF t i = P at *; generalize JaK (evF t.key t.part) (gd t.ups ((gd t.hops (i - 1)).2 + 1).toNat) t.call = w at *
 obtain ⟨hops, legs, cks, tfs, offs, z, ⟨⟨D, F, G, H⟩, E⟩, m, ups⟩ := t
 simp only at *
 clear o h
 refine EV func71 ?_
 simp -implicitDefEqProofs (disch := omega) only [go_sem, ntmps71]
 refine Jab (fun p => ?_) (fun p => ?_)
 . obtain rfl : i = 0 := by omega
   rw [if_pos rfl] at c
   have q : 0 < hops.length := by omega
   simp -implicitDefEqProofs (disch := omega) only [go_sem, c, results71]; try rfl
 rw [if_neg (by omega)] at c
 have d : ((i : Int) - 1).toNat = i - 1 := by omega
 have k : i - 1 < hops.length := by omega
 have u : i < hops.length := by omega
 obtain ⟨J, K, L⟩ := s _ k
 generalize f : gd hops i = y at *; generalize b : gd hops (i - 1) = x at *; obtain ⟨M, A⟩ := x; obtain ⟨O, Q⟩ := y
 simp only at *
 simp -implicitDefEqProofs (disch := omega) only [go_sem, d, f, b]
 refine Jab (fun j => ?_) (fun j => ?_)
 . have C : (A + 1).toNat < ups.length := by omega
   simp -implicitDefEqProofs (disch := omega) only [go_sem, d, f, b]
   refine Jaa l ?_
   simp -implicitDefEqProofs (disch := omega) only [go_sem, d, f, b]
   refine Jab (fun g => ?_) (fun g => ?_)
   . rw [if_pos ⟨j, g⟩] at c; subst c; simp -implicitDefEqProofs (disch := omega) only [go_sem, d, f, b, g, results71]
   . rw [if_neg (fun h => g h.2)] at c
     subst c; simp -implicitDefEqProofs (disch := omega) only [go_sem, d, f, b, g, results71]
 . rw [if_neg (fun h => j h.1)] at c
   subst c; simp -implicitDefEqProofs (disch := omega) only [go_sem, d, f, b, results71]
theorem JqH (t : Tp) : Ev prog 66 [.pt (TRP t) 0] (.clo 110 [.pt (.pt (TRP t) 0) 0]) := by
 refine Je6 (r := .clo 110 [.nptr 135 1 [.pt (TRP t) 0]]) ?_ _
 refine EV func66 ?_
 simp -implicitDefEqProofs (disch := omega) only [go_sem, ntmps66, results66]
abbrev BLP (b : Bl) : AV := .agg [I b.p, I b.q, I b.f, I b.t, I b.a]
abbrev BLS (l : List Bl) : AV := .sl 5 (l.map BLP)
abbrev BW (b : Bl) : List AV := [BLP b]
section
variable (p : Nat -> Bool) (l : List Bl)
@[go_sem] theorem JvU : AV.namesL p (l.map BLP) = false := Jal p l BLP fun _ => rfl
@[go_sem] theorem Jxy : AV.flatL (l.map BLP) = true := Ja6 l BLP fun _ => rfl
@[go_sem] theorem JwB : JbA 5 (l.map BLP) = true := JaG 5 l BLP fun _ => ⟨rfl, rfl⟩
end
@[go_sem] theorem Jvc (l : List Bl) (a b c d e : Int) : l.map BLP ++ [.agg [.v (.int .i64 a), .v (.int .i64 b), .v (.int .i64 c), .v (.int .i64 d), .v (.int .i64 e)]] = (l ++ [(⟨a, b, c, d, e⟩ : Bl)]).map BLP := by simp
theorem JgK (p : Nat -> Bool) (l : List Bl) : AV.namesL p ((l.map BW).map .tup) = false := by
 induction l with
 | nil => rfl
 | cons q l b =>
  show AV.namesL p (.tup (BW q) :: (l.map BW).map .tup) = false
  simp only [go_sem, b]
  first | done | simp
attribute [go_sem] JgK
@[go_sem] theorem JvV (p : Nat -> Bool) (l : List Bl) : AV.namesL p (l.map (AV.tup ∘ BW)) = false := by
 rw [<- L17]; exact JgK p l
abbrev TRQ (t : Tp) (N : List (ByteArray × Nat)) : AV := .agg [HPS t.hops, LGS t.legs, CKS t.cks, TFS t.tfs, SL t.offs, Str t.key, I t.part.h.c, I t.part.h.n, Str t.part.h.r, Str t.part.h.s, ITS t.part.l, Str t.call, SLs t.ups, .mp ((mI N).map entS)]
instance plainZ (P : Program) (f N l : Nat) (b : List Nat) : Plain (spZ P f N l b) := ⟨Jmn P f N l b⟩
set_option maxHeartbeats 8000000 in
theorem JnV (t : Tp) (G : t.ok) (h : Jda t = true) : SOK prog 110 [.pt (.pt (TRP t) 0) 0] (stO []) ((JbW t).map BW) := by
 have hl := (JaT.1 h).2.1
 obtain ⟨_, _, M, O, C, _, _⟩ := JaT.1 h
 have s := fun i => Jmr h (i := i)
 have j := fun i F => Jme t h i F
 have K := Jb5 t
 have J := fun i F => Jet t (i := i) F
 have q : ∀ i, JqF t i = ⟨payF t i, (gd t.legs i).t, (Jc0 t (gd t.legs i)).1.1, (Jc0 t (gd t.legs i)).1.2, amtF (gd t.tfs (gd t.legs i).t.toNat) (gd t.offs (gd t.legs i).t.toNat) (Jc0 t (gd t.legs i)).1.1 (Jc0 t (gd t.legs i)).1.2⟩ := fun i => rfl
 have k : ∀ l : Lg, legF l = true -> Ev prog 76 [.mp ((evM (evF t.key t.part)).map entS), CKP (gd t.cks l.f.toNat), CKP (gd t.cks l.t.toNat), LGP l] (biV (Jc0 t l)) := fun l B => by
  obtain ⟨⟨Z, f2, f3⟩, _⟩ := Jb6.1 B
  exact Jji (evF t.key t.part) _ _ l B (G.rds _ (Jao _ _ (by omega))) (G.rds _ (Jao _ _ (by omega)))
 have D : ∀ l : Lg, Jd5 (Jc0 t l).1.1 (Jc0 t l).1.2 = true := fun l => (JnU _ _ _ l).1
 have u := G.good
 have z : ∀ n ∈ t.offs, Jdf n = true := L0b.1 C
 obtain ⟨N, R⟩ := Jez (evF t.key t.part)
 simp only [TRP] at *; rw [R] at j k ⊢
 have j : ∀ i, i < t.legs.length -> Ev prog 71 [.pt (TRQ t N) 0, I i] (I (payF t i)) := j
 show SOK _ _ [.pt (.pt (TRQ t N) 0) 0] _ _
 generalize JbW t = L at *; generalize Jc0 t = S at *; generalize JqF t = BF at *; generalize payF t = T at *; clear R h G M O C
 refine JuQ [4, 5] func110 rfl (by kernel_rfl) mo (nb rfl) rfl ?_ rfl fun y => ?_
 . exact JgK allB _
 have h0 : ((L.map BW).map AV.tup) = ((L.drop 0).map BW).map AV.tup := rfl
 simp -implicitDefEqProofs (disch := omega) only [go_sem, ntmps110]; rw [h0]
 refine Jag (fun n E σ => ∃ (i : Nat), i + n = t.legs.length /\ E 0 = .yld y /\ E 1 = .pt (.pt (TRQ t N) 0) 0 /\ E 10 = LGS t.legs /\ E 11 = I t.legs.length /\ E 12 = I i /\ E 81 = .tup (((L.drop i).map BW).map .tup)) t.legs.length ⟨0, by omega, ?_⟩ ?_
 . simp -implicitDefEqProofs (disch := omega) only [go_sem]; try rfl
 rintro n E σ ⟨i, F, o, p, c, d, g, b⟩
 simp -implicitDefEqProofs (disch := omega) only [go_sem, o, p, c, d, g, b]
 refine Jab (fun hc => ?_) (fun hc => ?_)
 . have w : i < t.legs.length := by omega
   obtain ⟨H, g2, g3⟩ := s i w
   have U := j i w; have V := k (gd t.legs i) H; have X := D (gd t.legs i); have Q := q i
   obtain ⟨⟨Z, f2, f3⟩, _⟩ := Jb6.1 H
   rw [JaY L i (by omega), J i w, Q] at b
   have Y := Jjb (gd t.tfs (gd t.legs i).t.toNat) (gd t.offs (gd t.legs i).t.toNat) _ _ (u _ (Jao _ _ (by omega))) (z _ (Jao _ _ (by omega))) X
   have b1 : (gd t.legs i).f.toNat < t.cks.length := by omega
   have b2 : (gd t.legs i).t.toNat < t.cks.length := by omega
   have b3 : (gd t.legs i).t.toNat < t.tfs.length := by omega
   have b4 : (gd t.legs i).t.toNat < t.offs.length := by omega
   clear Q q k j D s H g2 g3; generalize hW : S (gd t.legs i) = W at *; generalize T i = P at *; generalize hA : amtF (gd t.tfs (gd t.legs i).t.toNat) (gd t.offs (gd t.legs i).t.toNat) W.1.1 W.1.2 = A at *; generalize m : gd t.legs i = l at *; obtain ⟨lf, lt, lg, lk⟩ := l
   obtain ⟨⟨w1, w2⟩, w3⟩ := W
   simp only at *
   clear hW hA; simp -implicitDefEqProofs (disch := omega) only [go_sem, o, p, c, d, g, b, m]
   refine Jaa U ?_
   simp -implicitDefEqProofs (disch := omega) only [go_sem, o, p, c, d, g, b, m]
   refine Jb2 Plain.mono ?_
   simp -implicitDefEqProofs (disch := omega) only [go_sem, o, p, c, d, g, b, m, false_and, and_self]
   refine Jaa V ?_
   simp -implicitDefEqProofs (disch := omega) only [go_sem, o, p, c, d, g, b, m, false_and, and_self]
   refine Jb2 Plain.mono ?_
   simp -implicitDefEqProofs (disch := omega) only [go_sem, o, p, c, d, g, b, m, false_and, and_self]
   refine Jaa Y ?_
   simp -implicitDefEqProofs (disch := omega) only [go_sem, o, p, c, d, g, b, m, false_and, and_self]
   refine ⟨?_, .inr trivial⟩
   refine Jad (t.legs.length - (i + 1)) (by omega) ⟨i + 1, by omega, ?_⟩
   simp -implicitDefEqProofs (disch := omega) only [go_sem, o, p, c, d, g, b]; try rfl
 . obtain rfl : i = t.legs.length := by omega
   rw [<- K, L0K] at b
   have b : E 81 = .tup [] := b
   simp -implicitDefEqProofs (disch := omega) only [go_sem, b]
   exact .inl trivial
set_option maxHeartbeats 2000000 in
theorem Jje (X : AV) (L : List Bl) (z : ∀ p, AV.namesL p [.pt X 0] = false) (H : SOK prog 110 [.pt X 0] (stO []) (L.map BW)) (F : L.length <= 1000) :
 Ev prog 109 [.v (.slice none 0 0), .clo 110 [.pt X 0]] (BLS L) := by
 refine EW [1, 4] func109 ?_
 simp -implicitDefEqProofs (disch := omega) only [go_sem, ntmps109, z]
 refine JaZ 230686752 230686753 0 0 86 5 (k := ⟨70, 1, [.v (.slice none 0 0)]⟩) (el := .v (.slice none 0 0)) (by simp -implicitDefEqProofs (disch := omega) only [go_sem]) (by decide) rfl rfl (by simp) (by simp -implicitDefEqProofs (disch := omega) only [go_sem]) rfl ?_
 refine Jds Plain.mono ?_
 simp -implicitDefEqProofs (disch := omega) only [go_sem, z]
 refine JbK ?_
 refine Jc7 [] [230686752] 14418020 (L.map BW)
  (fun M h => ∃ (o r : List Bl) (x : Nat), L = o ++ r /\ M = r.map BW /\ x = 230686753 /\ h 230686752 = some ⟨70, 1, [.own x 5 0 o.length]⟩ /\ h x = some ⟨86, 5, o.map BLP⟩)
  (g := 110) (caps := [.pt X 0]) ?_ ?_ ?_ ?_ ?_ ?_ ?_ ?_
 . simp -implicitDefEqProofs (disch := omega) only [go_sem]
 . rw [JjY]; exact H
 . intro x j
   obtain ⟨y, _, rfl⟩ := L08.1 j
   rfl
 . exact z _
 . simp -implicitDefEqProofs (disch := omega) only [go_sem]
 . refine ⟨[], L, _, rfl, rfl, rfl, ?_⟩
   simp -implicitDefEqProofs (disch := omega) only [go_sem, z]
   try exact ⟨rfl, rfl⟩
 . rintro w d y t B ⟨o, r, x, i, c, j, l, m⟩
   have s : w 2 = .ptr 230686752 1 0 0 := by rw [d]; simp -implicitDefEqProofs (disch := omega) only [go_sem]
   clear d
   obtain ⟨q, f, rfl, rfl, rfl⟩ : ∃ q f, r = q :: f /\ y = BW q /\ t = f.map BW := by
    cases r with
    | nil => cases c
    | cons q f => simp only [L0q, List.cons.injEq] at c; exact ⟨q, f, rfl, c.1, c.2⟩
   have G : o.length + 1 <= 1000 := by rw [i, L07, L0g] at F; omega
   generalize C : rQ _ _ w _ = R
   have D : ∀ (E : Env) (h : Jac) (u : Nat), u = 230686753 -> h 230686752 = some ⟨70, 1, [.own u 5 0 (o.length + 1)]⟩ -> h u = some ⟨86, 5, (o ++ [q]).map BLP⟩ -> R .normal E h := by
    intro E h u I J K
    rw [<- C]
    refine ⟨inL [], fun _ _ => rfl, ?_⟩
    rw [Jch]
    exact ⟨o ++ [q], f, u, by rw [i, L0P]; rfl, rfl, I, by rw [L07]; exact J, K⟩
   clear C i; obtain ⟨N, O, P, Q, S⟩ := q
   have b : o.take o.length = o := L0c
   have A := j; subst j; simp -implicitDefEqProofs (disch := omega) only [go_sem, s, l, m, b]
   refine D _ _ _ A ?_ ?_
   . simp -implicitDefEqProofs (disch := omega) only [go_sem, l, b]
   . simp -implicitDefEqProofs (disch := omega) only [go_sem, m, b]
 . rintro w d B ⟨o, r, x, i, c, j, l, m⟩
   have s : w 2 = .ptr 230686752 1 0 0 := by rw [d]; simp -implicitDefEqProofs (disch := omega) only [go_sem]
   clear d
   obtain rfl : r = [] := by
    cases r with
    | nil => rfl
    | cons q f => cases c
   rw [L0F] at i; subst i
   have b : L.take L.length = L := L0c
   subst j; simp -implicitDefEqProofs (disch := omega) only [go_sem, s, l, m]
   refine Jay Plain.mono [230686752, 230686753] ?_
   simp -implicitDefEqProofs (disch := omega) only [go_sem, s, l, m, b, L04]; simp -implicitDefEqProofs (disch := omega) only [go_sem, s, l, m, b, L04, results109]
theorem JmM (X : AV) (L : List Bl) (d : ∀ p, AV.namesL p [.pt X 0] = false) (b : ∀ σ, [AV.pt X 0].map (res σ) = [.pt X 0]) (g : SOK prog 110 [.pt X 0] (stO []) (L.map BW)) (f : L.length <= 1000) :
 Ev prog 65 [.clo 110 [.pt X 0]] (BLS L) := by
 have c := Jje X L d g f
 refine EV func65 ?_
 simp -implicitDefEqProofs (disch := omega) only [go_sem, ntmps65, d, b]
 refine Jaa c ?_
 simp -implicitDefEqProofs (disch := omega) only [go_sem, results65]
theorem Jjj (t : Tp) (d : t.ok) (h : Jda t = true) : Ev prog 23 [TPP t] (.tup [BLS (JbW t), I 0]) := by
 have f := Jk6 t d h; have g := JqH t; have c := JnV t d h
 have b : (JbW t).length <= 1000 := by
  have := (JaT.1 h).2.1
  rw [Jb5]; omega
 obtain ⟨N, j⟩ := Jez (evF t.key t.part)
 simp only [TRP] at *; rw [j] at f g c; generalize JbW t = L at *
 obtain ⟨hops, legs, cks, tfs, offs, l, ⟨⟨m, q, s, u⟩, o⟩, i, ups⟩ := t
 simp only at *
 have k := JmM _ L (fun p => by simp only [go_sem]) (fun w => by simp only [go_sem]) c b
 clear c j h d
 refine EV func23 ?_
 simp -implicitDefEqProofs (disch := omega) only [go_sem, ntmps23]
 refine Jaa f ?_
 simp -implicitDefEqProofs (disch := omega) only [go_sem]
 refine Jaa g ?_
 simp -implicitDefEqProofs (disch := omega) only [go_sem]
 refine Jaa k ?_
 simp -implicitDefEqProofs (disch := omega) only [go_sem, results23]
abbrev payV (t : Tp) (i : Int) : AV := if Jda t = true /\ (0 <= i /\ i <= (t.legs.length : Int) - 1) then .tup [I (payF t i.toNat), I 0] else .tup [I 0, I 380]
theorem JgU (t : Tp) (d : t.ok) (i : Int) : Ev prog 26 [TPP t, I i] (payV t i) := by
 have f := JcY i 0 ((t.legs.length : Int) - 1)
 by_cases h : Jda t = true
 . by_cases hi : 0 <= i /\ i <= (t.legs.length : Int) - 1
   . have b := Jk6 t d h
     obtain ⟨k, rfl⟩ := L1X hi.1
     have m := Jme t h k (by omega)
     rw [payV, if_pos ⟨h, hi⟩, L1a]; rw [decide_eq_true hi] at f
     obtain ⟨N, g⟩ := Jez (evF t.key t.part)
     simp only [TRP] at *; rw [g] at b m; generalize payF t k = P at *
     obtain ⟨hops, legs, cks, tfs, offs, l, ⟨⟨p, s, u, w⟩, q⟩, c, ups⟩ := t
     have o := d.legs
     simp only at *
     refine EV func26 ?_
     simp -implicitDefEqProofs (disch := omega) only [go_sem, ntmps26]
     refine Jaa b ?_
     simp -implicitDefEqProofs (disch := omega) only [go_sem]
     refine Jaa f ?_
     simp -implicitDefEqProofs (disch := omega) only [go_sem]
     refine Jaa m ?_
     simp -implicitDefEqProofs (disch := omega) only [go_sem, results26]
   . have b := Jk6 t d h
     rw [payV, if_neg (fun j => hi j.2)]
     rw [decide_eq_false hi] at f
     obtain ⟨N, g⟩ := Jez (evF t.key t.part)
     simp only [TRP] at *; rw [g] at b
     obtain ⟨hops, legs, cks, tfs, offs, l, ⟨⟨p, s, u, w⟩, q⟩, c, ups⟩ := t
     have o := d.legs
     simp only at *
     refine EV func26 ?_
     simp -implicitDefEqProofs (disch := omega) only [go_sem, ntmps26]
     refine Jaa b ?_
     simp -implicitDefEqProofs (disch := omega) only [go_sem]
     refine Jaa f ?_
     simp -implicitDefEqProofs (disch := omega) only [go_sem, results26]
 . have b := Jry t d (by simpa using h)
   rw [payV, if_neg (fun j => h j.1)]
   refine EV func26 ?_
   simp -implicitDefEqProofs (disch := omega) only [go_sem, ntmps26]
   refine Jaa b ?_
   simp -implicitDefEqProofs (disch := omega) only [go_sem, results26]
theorem JtJ (p : Pt) : AV.dn (shV (some p)) = false := by
 have h : AV.dnL (p.l.map ITP) = false := Jdl ITP (fun x => by simp only [AV.dn, AV.dnL, Jdl _ (fun x => AV.dn.eq_2 _), L12]) p.l
 simp [AV.dn, AV.dnL, h]
abbrev TPZ (hops : List (Int × Int)) (legs : List Lg) (cks : List Ck) (tfs : List Tf) (offs : List Int) (key b : ByteArray) (ups : List ByteArray) : AV :=
 .agg [HPS hops, LGS legs, CKS cks, TFS tfs, SL offs, Str key, I 0, I 0, .v (.string ByteArray.empty), .v (.string ByteArray.empty), .v (.slice none 0 0), Str b, SLs ups]
def witL (b : ByteArray) (ups : List ByteArray) (legs : List Lg) (w : List Int) (i : Nat) : List ByteArray := (w.take i).map (witE b ups legs)
theorem Jsc (b : ByteArray) (ups : List ByteArray) (legs : List Lg) (w : List Int) (i : Nat) (h : i <= w.length) : (witL b ups legs w i).length = i := by
 unfold witL; rw [L04, L03]; omega
theorem Jqj (b : ByteArray) (ups : List ByteArray) (legs : List Lg) (w : List Int) (i : Nat) (h : i < w.length) : witL b ups legs w (i + 1) = witL b ups legs w i ++ [witE b ups legs (gd w i)] := by
 unfold witL; rw [Jp6 w i h, L0Z]; rfl
def wiI (T : AV) (w : List Int) (W : List ByteArray) (L : List Int) (i : Nat) (E : Env) (σ : Jac) : Prop :=
 E 1 = SL w /\ E 2 = .ptr 113246240 13 0 0 /\ E 4 = .ptr 113246272 5 0 0 /\ E 5 = .ptr 113246288 2 0 0 /\ E 6 = .own 113246304 1 0 L.length /\ E 7 = I i /\
 σ 113246240 = some ⟨52, 13, [T]⟩ /\ σ 113246272 = some ⟨49, 5, [zP]⟩ /\ σ 113246288 = some ⟨90, 2, [.agg [I 0, .own 113246289 1 0 W.length]]⟩ /\
 σ 113246289 = some ⟨9, 1, W.map Str⟩ /\ σ 113246304 = some ⟨3, 1, L.map I⟩
set_option maxHeartbeats 4000000 in
theorem Jny (hops : List (Int × Int)) (legs : List Lg) (cks : List Ck) (tfs : List Tf) (offs : List Int) (call : ByteArray) (n : Nat) (w : List Int) (hw : ∀ x ∈ w, R64 x) (hwl : w.length <= 9223372036854775807) (hn : 0 < n) (hn2 : n <= 1000) (hll : legs.length <= 1000) (hleg : ∀ i, i < legs.length -> legF (gd legs i) = true) :
    Ev prog 53 [TPZ hops legs cks tfs offs (keyS 0) JaO (upsN n), SL w] (PTP (witP JaO (upsN n) legs w)) := by
  have hsh := Ji6 n legs w; have hul := Jbl n; have hl12 := Jf7 w
  have d2 := JrS (keyS 0) (witR JaO (upsN n) legs w) ((min w.length 12 : Nat) : Int) (witN w (min w.length 12)) (by simp only [witR, L04, L03]; omega) (by have := hl12 (min w.length 12); omega) (fun x hx => by
    have := Jlw w _ x hx
    constructor <;> omega)
  rw [hsh] at d2
  have hWL : witR JaO (upsN n) legs w = ⟨0, witL JaO (upsN n) legs w (min w.length 12)⟩ := by
    unfold witR witL
    congr 2
    by_cases h : w.length <= 12
    . rw [L0a h, show min w.length 12 = w.length by omega, L0c]
    . rw [show min w.length 12 = 12 by omega]
  rw [hWL] at d2; have hws := Jqj JaO (upsN n) legs w; have hwl2 := Jsc JaO (upsN n) legs w
  have hnl : ∀ i, (witN w i).length <= i := Jf7 w
  have hns : ∀ i, witN w (i + 1) = witN w i ++ if Jaf ((gd w i).tdiv 128) 8 ≠ 7 then [(i : Int)] else [] := fun i => rfl
  have hE : ∀ x, witE JaO (upsN n) legs x = if Jaf x 3 = 1 then gd (upsN n) (Jaf (x.tdiv 3) (upsN n).length).toNat else if Jaf x 3 = 2 /\ legs ≠ [] then recF (gd legs (Jaf (x.tdiv 6) legs.length).toNat) (1 + Jaf (x.tdiv 3) 2) else JaO := fun x => rfl
  have hw0 : witL JaO (upsN n) legs w 0 = [] := rfl
  have hn0 : witN w 0 = [] := rfl
  have k1 := JlY; rw [<- JoU] at k1; clear hsh hWL hl12; generalize witP JaO (upsN n) legs w = PT at *; generalize witL JaO (upsN n) legs w = W at *; generalize witN w = L at *; generalize witE JaO (upsN n) legs = WE at *; generalize upsN n = ups at *; generalize keyS 0 = KEY at *
  obtain ⟨⟨pc, pn, pr, ps⟩, pl⟩ := PT
  refine EW [2, 15] func53 ?_
  simp -implicitDefEqProofs (disch := omega) only [go_sem, ntmps53]
  refine JaZ 113246288 113246289 0 1 9 1 (k := ⟨90, 2, [.agg [I 0, .v (.slice none 0 0)]]⟩) (el := .agg [I 0, .v (.slice none 0 0)]) (by simp -implicitDefEqProofs (disch := omega) only [go_sem]) (by decide) rfl rfl (by simp) (by simp -implicitDefEqProofs (disch := omega) only [go_sem]) rfl ?_
  refine Jds Plain.mono ?_
  simp -implicitDefEqProofs (disch := omega) only [go_sem]
  refine JeF 0 (fun E σ => wiI (TPZ hops legs cks tfs offs KEY JaO ups) w (W (min w.length 12)) (L (min w.length 12)) (min w.length 12) E σ) ?_ ?_
  rotate_left
  . rintro E σ ⟨e1, e2, e4, e5, e6, e7, m2, m4, m5, mW, mL⟩
    have hWi := hwl2 (min w.length 12) (by omega)
    clear hws hns hE hwl2 hnl; generalize W (min w.length 12) = Wm at *; generalize L (min w.length 12) = Lm at *
    have q1 : Wm.take (min w.length 12) = Wm := L0a (by omega)
    have q2 : Lm.take Lm.length = Lm := L0c
    simp -implicitDefEqProofs (disch := omega) only [go_sem, e1, e2, e4, e5, e6, e7, m2, m4, m5, mW, mL]
    refine JkM [113246289, 113246304] ?_
    simp -implicitDefEqProofs (disch := omega) only [go_sem, e1, e2, e4, e5, e6, e7, m2, m4, m5, mW, mL, q1, q2, hWi, L04, false_and, and_self]
    refine Jaa k1 ?_
    simp -implicitDefEqProofs (disch := omega) only [go_sem, e1, e2, e4, e5, e6, e7, m2, m4, m5, mW, mL, q1, q2, hWi, L04, false_and, and_self]
    refine Jaa d2 ?_ (h4 := .inr (JtJ ⟨⟨pc, pn, pr, ps⟩, pl⟩))
    simp -implicitDefEqProofs (disch := omega) only [go_sem, e1, e2, e4, e5, e6, e7, m2, m4, m5, mW, mL, q1, q2, hWi, L04, false_and, and_self, results53]
  refine Jag (fun k E σ => ∃ i : Nat, i + k = 12 /\ i <= w.length /\ wiI (TPZ hops legs cks tfs offs KEY JaO ups) w (W i) (L i) i E σ) 12 ⟨0, by omega, by omega, ?_⟩ ?_
  . simp -implicitDefEqProofs (disch := omega) only [go_sem, wiI, hw0, hn0, false_and]; try rfl
  rintro k E σ ⟨i, hk, hiw, e1, e2, e4, e5, e6, e7, m2, m4, m5, mW, mL⟩
  simp -implicitDefEqProofs (disch := omega) only [go_sem, e1, e2, e4, e5, e6, e7, m2, m4, m5, mW, mL]
  refine Jab (fun hc => ?_) (fun hc => ?_)
  rotate_left
  . obtain rfl : i = min w.length 12 := by omega
    simp -implicitDefEqProofs (disch := omega) only [go_sem, wiI, e1, e2, e4, e5, e6, e7, m2, m4, m5, mW, mL]; try rfl
  simp -implicitDefEqProofs (disch := omega) only [go_sem, e1, e2, e4, e5, e6, e7, m2, m4, m5, mW, mL]
  refine Jab (fun hc2 => ?_) (fun hc2 => ?_)
  rotate_left
  . obtain rfl : i = min w.length 12 := by omega
    simp -implicitDefEqProofs (disch := omega) only [go_sem, wiI, e1, e2, e4, e5, e6, e7, m2, m4, m5, mW, mL]; try rfl
  have hi12 : i < 12 := by omega
  have hil : i < w.length := by omega
  obtain ⟨r1, r2⟩ := hw _ (Jao w i hil)
  have hs1 := hws i hil; have hs2 := hns i; have hEi := hE (gd w i); have hWi := hwl2 i hiw; have hLi := hnl i; clear d2 hE hws hwl2 hnl hns hc hc2
  have c1 := JaH (gd w i) 3 ⟨r1, r2⟩ (by omega)
  have p1 := Jai (c := gd w i) (n := 3) (by omega)
  have rd3 := Jdz (m := gd w i) (d := 3) (by omega) ⟨r1, r2⟩
  have rd6 := Jdz (m := gd w i) (d := 6) (by omega) ⟨r1, r2⟩
  have rd128 := Jdz (m := gd w i) (d := 128) (by omega) ⟨r1, r2⟩
  have c2 := JaH ((gd w i).tdiv 3) ups.length rd3 (by omega)
  have p2 := Jai (c := (gd w i).tdiv 3) (n := ups.length) (by omega)
  have c4 := JaH ((gd w i).tdiv 3) 2 rd3 (by omega)
  have p4 := Jai (c := (gd w i).tdiv 3) (n := 2) (by omega)
  have c5 := JaH ((gd w i).tdiv 128) 8 rd128 (by omega)
  generalize hWs : W (i + 1) = W' at *; generalize hLs : L (i + 1) = L' at *; generalize W i = Wi at *; generalize L i = Li at *
  have q1 : Wi.take Wi.length = Wi := L0c
  have q2 : Li.take Li.length = Li := L0c
  generalize WE (gd w i) = X at *; generalize hy3 : (gd w i).tdiv 3 = y3 at *; generalize hy6 : (gd w i).tdiv 6 = y6 at *; generalize hy128 : (gd w i).tdiv 128 = y128 at *; obtain ⟨u3, v3⟩ := rd3; obtain ⟨u6, v6⟩ := rd6; obtain ⟨u128, v128⟩ := rd128; generalize Jaf (gd w i) 3 = p at *; generalize Jaf y3 (ups.length : Int) = j at *; generalize Jaf y3 2 = e at *; generalize Jaf y128 8 = b at *; simp -implicitDefEqProofs (disch := omega) only [go_sem, e1, e2, e4, e5, e6, e7, m2, m4, m5, mW, mL]
  refine Jaa c1 ?_
  simp -implicitDefEqProofs (disch := omega) only [go_sem, e1, e2, e4, e5, e6, e7, m2, m4, m5, mW, mL]
  refine JbM (fun E σ => E 8 = Str X /\ wiI (TPZ hops legs cks tfs offs KEY JaO ups) w Wi Li i E σ) (fun h3 => ?_) (fun h3 => ?_) ?_
  . rw [if_pos h3] at hEi
    have hjl : j.toNat < ups.length := by omega
    simp -implicitDefEqProofs (disch := omega) only [go_sem, e1, e2, e4, e5, e6, e7, m2, m4, m5, mW, mL, hy3]
    refine Jaa c2 ?_
    simp -implicitDefEqProofs (disch := omega) only [go_sem, wiI, e1, e2, e4, e5, e6, e7, m2, m4, m5, mW, mL, hy3, hEi, false_and]; try rfl
  . rw [if_neg h3] at hEi; simp -implicitDefEqProofs (disch := omega) only [go_sem, e1, e2, e4, e5, e6, e7, m2, m4, m5, mW, mL]
    refine Jab (fun h4 => ?_) (fun h4 => ?_)
    rotate_left
    . rw [if_neg (fun h => h4 h.1)] at hEi
      simp -implicitDefEqProofs (disch := omega) only [go_sem, wiI, e1, e2, e4, e5, e6, e7, m2, m4, m5, mW, mL, hEi, false_and]; try rfl
    simp -implicitDefEqProofs (disch := omega) only [go_sem, e1, e2, e4, e5, e6, e7, m2, m4, m5, mW, mL]
    refine Jab (fun h5 => ?_) (fun h5 => ?_)
    rotate_left
    . have hnil : legs = [] := L0L (by omega)
      rw [if_neg (fun h => h.2 hnil)] at hEi
      simp -implicitDefEqProofs (disch := omega) only [go_sem, wiI, e1, e2, e4, e5, e6, e7, m2, m4, m5, mW, mL, hEi, false_and]; try rfl
    have hne : legs ≠ [] := fun h => by rw [h] at h5; exact absurd h5 (by decide)
    rw [if_pos ⟨h4, hne⟩] at hEi
    have c3 := JaH y6 legs.length ⟨u6, v6⟩ (by omega)
    have p3 := Jai (c := y6) (n := legs.length) (by omega)
    generalize Jaf y6 (legs.length : Int) = v at *
    have hvl : v.toNat < legs.length := by omega
    have g1 := hleg v.toNat hvl; have c6 := JuD (gd legs v.toNat) (1 + e)
    have hrv : recV (gd legs v.toNat) (1 + e) = .tup [Str (recF (gd legs v.toNat) (1 + e)), I 0] := if_pos ⟨g1, by omega⟩
    rw [hrv] at c6; clear hrv; generalize recF (gd legs v.toNat) (1 + e) = RF at *; generalize hlv : gd legs v.toNat = l at *; obtain ⟨lf, lt, lg, lk⟩ := l; simp -implicitDefEqProofs (disch := omega) only [go_sem, e1, e2, e4, e5, e6, e7, m2, m4, m5, mW, mL, hy3, hy6]
    refine Jaa c3 ?_
    simp -implicitDefEqProofs (disch := omega) only [go_sem, e1, e2, e4, e5, e6, e7, m2, m4, m5, mW, mL, hy3, hy6, hlv]
    refine Jaa c4 ?_
    simp -implicitDefEqProofs (disch := omega) only [go_sem, e1, e2, e4, e5, e6, e7, m2, m4, m5, mW, mL, hy3, hy6, hlv]
    refine Jaa c6 ?_
    simp -implicitDefEqProofs (disch := omega) only [go_sem, wiI, e1, e2, e4, e5, e6, e7, m2, m4, m5, mW, mL, hy3, hy6, hEi, hlv, false_and]; try rfl
  clear e1 e2 e4 e5 e6 e7 m2 m4 m5 mW mL E σ hEi
  rintro E σ ⟨e8, e1, e2, e4, e5, e6, e7, m2, m4, m5, mW, mL⟩
  simp -implicitDefEqProofs (disch := omega) only [go_sem, e1, e2, e4, e5, e6, e7, e8, m2, m4, m5, mW, mL, q1, hWi, hy128, false_and]
  refine Jaa c5 ?_
  simp -implicitDefEqProofs (disch := omega) only [go_sem, e1, e2, e4, e5, e6, e7, e8, m2, m4, m5, mW, mL, hy128, q1, hWi, false_and]
  refine Jab (fun h6 => ?_) (fun h6 => ?_)
  . rw [if_pos h6] at hs2; generalize hQ : Ji9 _ k = Q; simp -implicitDefEqProofs (disch := omega) only [go_sem, e1, e2, e4, e5, e6, e7, e8, m2, m4, m5, mW, mL, q1, q2, hWi, false_and]; rw [<- hQ]; clear hQ
    refine Jad (12 - (i + 1)) (by omega) ⟨i + 1, by omega, by omega, ?_⟩
    rw [hWs, hLs, hs1, hs2]; simp -implicitDefEqProofs (disch := omega) only [go_sem, wiI, e1, e2, e4, e5, e6, e7, e8, m2, m4, m5, mW, mL, q1, q2, hWi, L07, L0g, L0x, false_and]; try simp
  . rw [if_neg h6, L0F] at hs2; simp -implicitDefEqProofs (disch := omega) only [go_sem, e1, e2, e4, e5, e6, e7, e8, m2, m4, m5, mW, mL, q1, q2, hWi, false_and]
    refine Jad (12 - (i + 1)) (by omega) ⟨i + 1, by omega, by omega, ?_⟩
    rw [hWs, hLs, hs1, hs2]; simp -implicitDefEqProofs (disch := omega) only [go_sem, wiI, e1, e2, e4, e5, e6, e7, e8, m2, m4, m5, mW, mL, q1, q2, hWi, L07, L0g, L0x, false_and]; try simp
@[go_sem] theorem Jve (l : List (Int × Int)) (a b : Int) : l.map HPP ++ [.agg [.v (.int .i64 a), .v (.int .i64 b)]] = (l ++ [(a, b)]).map HPP := by simp
@[go_sem] theorem Jvf (l : List Lg) (a b c d e f : Int) : l.map LGP ++ [.agg [.v (.int .i64 a), .v (.int .i64 b), .v (.int .i64 c), .v (.int .i64 d), .v (.int .i64 e), .v (.int .i64 f)]] = (l ++ [(⟨a, b, ⟨c, d⟩, ⟨e, f⟩⟩ : Lg)]).map LGP := by simp
@[go_sem] theorem Jvd (l : List Ck) (c : Ck) : l.map CKP ++ [CKP c] = (l ++ [c]).map CKP := by simp
@[go_sem] theorem Jw5 (l : List Tf) (c : Tf) : l.map TF ++ [TF c] = (l ++ [c]).map TF := by simp
theorem dnv (x : Value) : AV.dn (.v x) = false := AV.dn.eq_2 x
theorem Jxr (l : List Int) : AV.dnL (l.map I) = false := Jdl I (fun x => dnv _) l
theorem Joi (c : Cr) : (CRP c).dn = false := by
 simp only [AV.dn, AV.dnL, Jxr, Jdl QT (fun q => by simp only [AV.dn, AV.dnL, L12]) c.at_, L12]
theorem JcH (c : Ck) : (CKP c).dn = false := by
 simp only [AV.dn, AV.dnL, Jdl RDP (fun q => by simp only [AV.dn, AV.dnL, L12]) c.r, L12]
theorem JBA (c : Tf) : (TF c).dn = false := by
 simp only [AV.dn, AV.dnL, Jdl TP (fun q => by simp only [AV.dn, AV.dnL, L12]) c.l, L12]
structure Nm.ok (x : Nm) : Prop where
 hops : ∀ h ∈ x.hops, R64 h.1 /\ R64 h.2
 hopsL : x.hops.length <= 9223372036854775807
 legs : ∀ q ∈ x.legs, T3ok q
 legsL : x.legs.length <= 9223372036854775807
 crs : ∀ c ∈ x.crs, c.ok
 crsL : x.crs.length <= 9223372036854775807
 bases : ∀ n ∈ x.bases, R64 n
 basesL : x.bases.length <= 9223372036854775807
 rates : ∀ q ∈ x.rates, Q4ok q
 ratesL : x.rates.length <= 9223372036854775807
 offs : ∀ n ∈ x.offs, R64 n
 offsL : x.offs.length <= 9223372036854775807
 wit : ∀ n ∈ x.wit, R64 n
 witL : x.wit.length <= 9223372036854775807
theorem JkG {x : Nm} (h : x.ok) (c : Nat) : (crsF x c).ok := by
 unfold crsF
 split
 . exact ⟨⟨by decide, by decide⟩, ⟨by decide, by decide⟩, fun r f => (by cases f), L14 _, fun q d => (by cases d), L14 _⟩
 . rename_i b
   exact h.crs _ (Jao _ _ (L1e _ (L18.2 b)))
theorem Jpe {l : List Int} (h : ∀ n ∈ l, R64 n) (i : Nat) : R64 (numF l i) := by
 unfold numF
 split
 . exact ⟨by decide, by decide⟩
 . rename_i b
   exact h _ (Jao _ _ (L1e _ (L18.2 b)))
def ckN (x : Nm) (i : Nat) : List Ck := (List.range i).map fun c => (crsF x c).clk
def tfN (x : Nm) (i : Nat) : List Tf := (List.range i).map fun c => tfQ (numF x.bases c) (x.rates.take (c % 4))
def ofN (x : Nm) (i : Nat) : List Int := (List.range i).map (offF x)
def lgN (x : Nm) (b : List (Int × Int)) (i : Nat) : List Lg := (List.range i).map (legM x b)
theorem JqN (x : Nm) (i : Nat) : ckN x (i + 1) = ckN x i ++ [(crsF x i).clk] := by simp [ckN, L1j]
theorem Jr3 (x : Nm) (i : Nat) : tfN x (i + 1) = tfN x i ++ [tfQ (numF x.bases i) (x.rates.take (i % 4))] := by simp [tfN, L1j]
theorem Jru (x : Nm) (i : Nat) : ofN x (i + 1) = ofN x i ++ [offF x i] := by simp [ofN, L1j]
theorem Jri (x : Nm) (b : List (Int × Int)) (i : Nat) : lgN x b (i + 1) = lgN x b i ++ [legM x b i] := by simp [lgN, L1j]
theorem Jkp (i : Nat) : upsN (i + 1) = upsN i ++ [updS i] := by simp [upsN, L1j]
theorem Jtv (x : Nm) (i : Nat) : (ckN x i).length = i := by simp [ckN]
theorem JuY (x : Nm) (i : Nat) : (tfN x i).length = i := by simp [tfN]
theorem Juy (x : Nm) (i : Nat) : (ofN x i).length = i := by simp [ofN]
theorem Jo1 (x : Nm) (b : List (Int × Int)) (i : Nat) : (lgN x b i).length = i := by simp [lgN]
abbrev mdT (b : AV) (G : List Lg) (C : List Ck) (T : List Tf) (O : List Int) (U : List ByteArray) : AV :=
 .agg [b, .own 29360178 6 0 G.length, .own 29360179 2 0 C.length, .own 29360180 2 0 T.length, .own 29360181 1 0 O.length, Str (keyS 0), I 0, I 0, .v (.string ByteArray.empty), .v (.string ByteArray.empty), .v (.slice none 0 0), Str JaO, .own 29360182 1 0 U.length]
abbrev zT : AV := .agg [.v (.slice none 0 0), .v (.slice none 0 0), .v (.slice none 0 0), .v (.slice none 0 0), .v (.slice none 0 0), .v (.string ByteArray.empty), I 0, I 0, .v (.string ByteArray.empty), .v (.string ByteArray.empty), .v (.slice none 0 0), .v (.string ByteArray.empty), .v (.slice none 0 0)]
def mdI (x : Nm) (b : AV) (G : List Lg) (C : List Ck) (T : List Tf) (O : List Int) (U : List ByteArray) (E : Env) (σ : Jac) : Prop :=
 E 1 = .ptr 29360144 7 0 0 /\ E 2 = .ptr 29360160 13 0 0 /\ E 3 = .ptr 29360176 13 0 0 /\ σ 29360144 = some ⟨28, 7, [NMP x]⟩ /\ σ 29360160 = some ⟨52, 13, [zT]⟩ /\
 σ 29360176 = some ⟨52, 13, [mdT b G C T O U]⟩ /\ σ 29360178 = some ⟨33, 6, G.map LGP⟩ /\ σ 29360179 = some ⟨58, 2, C.map CKP⟩ /\ σ 29360180 = some ⟨96, 2, T.map TF⟩ /\
 σ 29360181 = some ⟨3, 1, O.map I⟩ /\ σ 29360182 = some ⟨9, 1, U.map Str⟩
set_option maxHeartbeats 16000000 in
theorem JgH (x : Nm) (hx : x.ok) : Ev prog 13 [NMP x] (TPP (Jav x)) := by
  have hfin : TPP (Jav x) = .agg [HPS (JaA x.hops), LGS (lgN x (JaA x.hops) ((JaA x.hops).length - 1)), CKS (ckN x 8), TFS (tfN x 8), SL (ofN x 8), Str (keyS 0), I (Jav x).part.h.c, I (Jav x).part.h.n, Str (Jav x).part.h.r, Str (Jav x).part.h.s, ITS (Jav x).part.l, Str JaO, SLs (upsN ((Jcx x.hops).2 + 2).toNat)] := rfl
  have hHl := Jdp x.hops; have hHi := JdF x.hops; have hLi := Jl0 x.hops; have hlen1 := Jo1 x (JaA x.hops) ((JaA x.hops).length - 1)
  have cw := Jny (JaA x.hops) (lgN x (JaA x.hops) ((JaA x.hops).length - 1)) (ckN x 8) (tfN x 8) (ofN x 8) JaO ((Jcx x.hops).2 + 2).toNat x.wit hx.wit hx.witL (by omega) (by omega) (by omega) (fun i hi => by
    rw [hlen1] at hi
    have : gd (lgN x (JaA x.hops) ((JaA x.hops).length - 1)) i = legM x (JaA x.hops) i := Jl5 x (JaA x.hops) hi
    rw [this]; exact JoY x (by omega))
  have hwp : witP JaO (upsN ((Jcx x.hops).2 + 2).toNat) (lgN x (JaA x.hops) ((JaA x.hops).length - 1)) x.wit = (Jav x).part := rfl
  rw [hwp] at cw; rw [hfin]; clear hwp hfin; generalize (Jav x).part = PT at *
  obtain ⟨⟨pc, pn, pr, ps⟩, pl⟩ := PT
  simp only at *
  have k1 := JlY; rw [<- JoU] at k1
  refine EW [2, 17, 18, 37] func13 ?_
  simp -implicitDefEqProofs (disch := omega) only [go_sem, ntmps13]
  refine Jaa k1 ?_
  simp -implicitDefEqProofs (disch := omega) only [go_sem]
  refine JaZ 29360176 29360177 0 0 88 2 (k := ⟨52, 13, [.agg [.v (.slice none 0 0), .v (.slice none 0 0), .v (.slice none 0 0), .v (.slice none 0 0), .v (.slice none 0 0), Str (keyS 0), I 0, I 0, .v (.string ByteArray.empty), .v (.string ByteArray.empty), .v (.slice none 0 0), Str JaO, .v (.slice none 0 0)]]⟩) (el := .agg [.v (.slice none 0 0), .v (.slice none 0 0), .v (.slice none 0 0), .v (.slice none 0 0), .v (.slice none 0 0), Str (keyS 0), I 0, I 0, .v (.string ByteArray.empty), .v (.string ByteArray.empty), .v (.slice none 0 0), Str JaO, .v (.slice none 0 0)]) (by simp -implicitDefEqProofs (disch := omega) only [go_sem, false_and]; try rfl) (by decide) rfl rfl (by simp) (by simp -implicitDefEqProofs (disch := omega) only [go_sem]) rfl ?_
  refine JaZ 29360176 29360178 0 1 33 6 (k := ⟨52, 13, [.agg [.own 29360177 2 0 0, .v (.slice none 0 0), .v (.slice none 0 0), .v (.slice none 0 0), .v (.slice none 0 0), Str (keyS 0), I 0, I 0, .v (.string ByteArray.empty), .v (.string ByteArray.empty), .v (.slice none 0 0), Str JaO, .v (.slice none 0 0)]]⟩) (el := .agg [.own 29360177 2 0 0, .v (.slice none 0 0), .v (.slice none 0 0), .v (.slice none 0 0), .v (.slice none 0 0), Str (keyS 0), I 0, I 0, .v (.string ByteArray.empty), .v (.string ByteArray.empty), .v (.slice none 0 0), Str JaO, .v (.slice none 0 0)]) (by simp -implicitDefEqProofs (disch := omega) only [go_sem, false_and]; try rfl) (by decide) rfl rfl (by simp) (by simp -implicitDefEqProofs (disch := omega) only [go_sem]) rfl ?_
  refine JaZ 29360176 29360179 0 2 58 2 (k := ⟨52, 13, [.agg [.own 29360177 2 0 0, .own 29360178 6 0 0, .v (.slice none 0 0), .v (.slice none 0 0), .v (.slice none 0 0), Str (keyS 0), I 0, I 0, .v (.string ByteArray.empty), .v (.string ByteArray.empty), .v (.slice none 0 0), Str JaO, .v (.slice none 0 0)]]⟩) (el := .agg [.own 29360177 2 0 0, .own 29360178 6 0 0, .v (.slice none 0 0), .v (.slice none 0 0), .v (.slice none 0 0), Str (keyS 0), I 0, I 0, .v (.string ByteArray.empty), .v (.string ByteArray.empty), .v (.slice none 0 0), Str JaO, .v (.slice none 0 0)]) (by simp -implicitDefEqProofs (disch := omega) only [go_sem, false_and]; try rfl) (by decide) rfl rfl (by simp) (by simp -implicitDefEqProofs (disch := omega) only [go_sem]) rfl ?_
  refine JaZ 29360176 29360180 0 3 96 2 (k := ⟨52, 13, [.agg [.own 29360177 2 0 0, .own 29360178 6 0 0, .own 29360179 2 0 0, .v (.slice none 0 0), .v (.slice none 0 0), Str (keyS 0), I 0, I 0, .v (.string ByteArray.empty), .v (.string ByteArray.empty), .v (.slice none 0 0), Str JaO, .v (.slice none 0 0)]]⟩) (el := .agg [.own 29360177 2 0 0, .own 29360178 6 0 0, .own 29360179 2 0 0, .v (.slice none 0 0), .v (.slice none 0 0), Str (keyS 0), I 0, I 0, .v (.string ByteArray.empty), .v (.string ByteArray.empty), .v (.slice none 0 0), Str JaO, .v (.slice none 0 0)]) (by simp -implicitDefEqProofs (disch := omega) only [go_sem, false_and]; try rfl) (by decide) rfl rfl (by simp) (by simp -implicitDefEqProofs (disch := omega) only [go_sem]) rfl ?_
  refine JaZ 29360176 29360181 0 4 3 1 (k := ⟨52, 13, [.agg [.own 29360177 2 0 0, .own 29360178 6 0 0, .own 29360179 2 0 0, .own 29360180 2 0 0, .v (.slice none 0 0), Str (keyS 0), I 0, I 0, .v (.string ByteArray.empty), .v (.string ByteArray.empty), .v (.slice none 0 0), Str JaO, .v (.slice none 0 0)]]⟩) (el := .agg [.own 29360177 2 0 0, .own 29360178 6 0 0, .own 29360179 2 0 0, .own 29360180 2 0 0, .v (.slice none 0 0), Str (keyS 0), I 0, I 0, .v (.string ByteArray.empty), .v (.string ByteArray.empty), .v (.slice none 0 0), Str JaO, .v (.slice none 0 0)]) (by simp -implicitDefEqProofs (disch := omega) only [go_sem, false_and]; try rfl) (by decide) rfl rfl (by simp) (by simp -implicitDefEqProofs (disch := omega) only [go_sem]) rfl ?_
  refine JaZ 29360176 29360182 0 12 9 1 (k := ⟨52, 13, [.agg [.own 29360177 2 0 0, .own 29360178 6 0 0, .own 29360179 2 0 0, .own 29360180 2 0 0, .own 29360181 1 0 0, Str (keyS 0), I 0, I 0, .v (.string ByteArray.empty), .v (.string ByteArray.empty), .v (.slice none 0 0), Str JaO, .v (.slice none 0 0)]]⟩) (el := .agg [.own 29360177 2 0 0, .own 29360178 6 0 0, .own 29360179 2 0 0, .own 29360180 2 0 0, .own 29360181 1 0 0, Str (keyS 0), I 0, I 0, .v (.string ByteArray.empty), .v (.string ByteArray.empty), .v (.slice none 0 0), Str JaO, .v (.slice none 0 0)]) (by simp -implicitDefEqProofs (disch := omega) only [go_sem, false_and]; try rfl) (by decide) rfl rfl (by simp) (by simp -implicitDefEqProofs (disch := omega) only [go_sem]) rfl ?_
  refine Jds Plain.mono ?_
  simp -implicitDefEqProofs (disch := omega) only [go_sem]
  -- clocks, tariffs, offsets
  refine Jag (fun k E σ => ∃ i : Nat, i + k = 8 /\ E 4 = I i /\ mdI x (.own 29360177 2 0 0) [] (ckN x i) (tfN x i) (ofN x i) [] E σ /\ σ 29360177 = some ⟨88, 2, []⟩) 8 ⟨0, by omega, ?_⟩ ?_
  . simp -implicitDefEqProofs (disch := omega) only [go_sem, mdI, ckN, tfN, ofN, false_and, and_self]
    try ((repeat' apply And.intro) <;> rfl)
  rintro k E σ ⟨i, hk, e4, ⟨e1, e2, e3, m1, m2, m3, mg, mc, mt, mo, mu⟩, mh⟩
  simp -implicitDefEqProofs (disch := omega) only [go_sem, e4, e1, e2, e3, m1, m2, m3, mg, mc, mt, mo, mu, mh]
  refine Jab (fun hc => ?_) (fun hc => ?_)
  . have hck := Jtv x i; have htf := JuY x i; have hof := Juy x i
    have b1 := Jgo x i hx.crsL (by omega)
    have b2 := JmK (crsF x i) (JkG hx i)
    have b3 := JjX x.bases i hx.basesL (by omega)
    have r3 := Jpe hx.bases i
    have ht4 : (i : Int).tmod 4 = ((i % 4 : Nat) : Int) := by rw [L13 (by omega)]; omega
    have hmin : (min (x.rates.length : Int) ((i % 4 : Nat) : Int)).toNat = min x.rates.length (i % 4) := by omega
    have htk : x.rates.take (min x.rates.length (i % 4)) = x.rates.take (i % 4) := by
      by_cases h : i % 4 <= x.rates.length
      . rw [Nat.min_eq_right h]
      . rw [L0O (by omega), L0c, L0a (by omega)]
    have b4 := Jp8 (numF x.bases i) (x.rates.take (i % 4)) r3 (fun q hq => hx.rates q (L0H hq)) (by rw [L03]; have := hx.ratesL; omega)
    have b5 := JjX x.offs i hx.offsL (by omega)
    have r5 := Jpe hx.offs i
    have b6 := JaH (numF x.offs i) 100801 r5 (by omega)
    have p6 := Jai (c := numF x.offs i) (n := 100801) (by omega)
    have s1 := JqN x i; have s2 := Jr3 x i; have s3 := Jru x i
    have hoff : offF x i = Jaf (numF x.offs i) 100801 - 50400 := rfl
    rw [hoff] at s3; generalize (crsF x i).clk = K at *; generalize tfQ (numF x.bases i) (x.rates.take (i % 4)) = TQ at *; generalize Jaf (numF x.offs i) 100801 = po at *; generalize hC' : ckN x (i + 1) = C' at *; generalize hT' : tfN x (i + 1) = T' at *; generalize hO' : ofN x (i + 1) = O' at *; generalize ckN x i = C at *; generalize tfN x i = T at *; generalize ofN x i = O at *
    have q1 : C.take i = C := L0a (by omega)
    have q2 : T.take i = T := L0a (by omega)
    have q3 : O.take i = O := L0a (by omega)
    obtain ⟨kd, kr⟩ := K; obtain ⟨tl, tb⟩ := TQ; simp -implicitDefEqProofs (disch := omega) only [go_sem, e4, e1, e2, e3, m1, m2, m3, mg, mc, mt, mo, mu, mh, false_and, and_self]
    refine Jaa b1 ?_ (h4 := by first | exact .inl rfl | exact .inr (Joi _))
    simp -implicitDefEqProofs (disch := omega) only [go_sem, e4, e1, e2, e3, m1, m2, m3, mg, mc, mt, mo, mu, mh, false_and, and_self]
    refine Jaa b2 ?_ (h4 := by first | exact .inl rfl | exact .inr (JcH _))
    simp -implicitDefEqProofs (disch := omega) only [go_sem, e4, e1, e2, e3, m1, m2, m3, mg, mc, mt, mo, mu, mh, hck, htf, hof, q1, q2, q3, false_and, and_self]
    refine Jaa b3 ?_
    simp -implicitDefEqProofs (disch := omega) only [go_sem, e4, e1, e2, e3, m1, m2, m3, mg, mc, mt, mo, mu, mh, hck, htf, hof, q1, q2, q3, ht4, hmin, L0N, htk, false_and, and_self]
    refine Jaa b4 ?_ (h4 := by first | exact .inl rfl | exact .inr (JBA _))
    simp -implicitDefEqProofs (disch := omega) only [go_sem, e4, e1, e2, e3, m1, m2, m3, mg, mc, mt, mo, mu, mh, hck, htf, hof, q1, q2, q3, ht4, hmin, L0N, htk, false_and, and_self]
    refine Jaa b5 ?_
    simp -implicitDefEqProofs (disch := omega) only [go_sem, e4, e1, e2, e3, m1, m2, m3, mg, mc, mt, mo, mu, mh, hck, htf, hof, q1, q2, q3, ht4, hmin, L0N, htk, false_and, and_self]
    refine Jaa b6 ?_
    simp -implicitDefEqProofs (disch := omega) only [go_sem, e4, e1, e2, e3, m1, m2, m3, mg, mc, mt, mo, mu, mh, hck, htf, hof, q1, q2, q3, ht4, hmin, L0N, htk, false_and, and_self]
    refine Jad (8 - (i + 1)) (by omega) ⟨i + 1, by omega, ?_⟩
    rw [hC', hT', hO', s1, s2, s3]; simp -implicitDefEqProofs (disch := omega) only [go_sem, mdI, e4, e1, e2, e3, m1, m2, m3, mg, mc, mt, mo, mu, mh, hck, htf, hof, q1, q2, q3, L07, L0g, L0x, false_and, and_self]
    try simp [hck, htf, hof]
  obtain rfl : i = 8 := by omega
  generalize hC8 : ckN x 8 = C8 at *; generalize hT8 : tfN x 8 = T8 at *; generalize hO8 : ofN x 8 = O8 at *; clear hC8 hT8 hO8 hc; simp -implicitDefEqProofs (disch := omega) only [go_sem, e4, e1, e2, e3, m1, m2, m3, mg, mc, mt, mo, mu, mh, false_and, and_self]
  -- hops
  have hn0 : hopN x.hops 0 = [] := rfl
  refine JeF 2 (fun E σ => E 5 = .ptr 29360208 2 0 0 /\ mdI x (.own 29360177 2 0 (min x.hops.length 6)) [] C8 T8 O8 [] E σ /\ σ 29360177 = some ⟨88, 2, (hopN x.hops (min x.hops.length 6)).map HPP⟩ /\ σ 29360208 = some ⟨88, 2, [HPP (gd (hopN x.hops (min x.hops.length 6)) (min x.hops.length 6 - 1))]⟩) ?_ ?_
  . refine Jag (fun k E σ => ∃ i : Nat, i + k = 6 /\ i <= x.hops.length /\ E 6 = I i /\ E 5 = .ptr 29360208 2 0 0 /\ mdI x (.own 29360177 2 0 i) [] C8 T8 O8 [] E σ /\ σ 29360177 = some ⟨88, 2, (hopN x.hops i).map HPP⟩ /\ σ 29360208 = some ⟨88, 2, [HPP (gd (hopN x.hops i) (i - 1))]⟩) 6 ⟨0, by omega, by omega, ?_⟩ ?_
    . simp -implicitDefEqProofs (disch := omega) only [go_sem, mdI, hn0, e1, e2, e3, m1, m2, m3, mg, mc, mt, mo, mu, mh, false_and, and_self]
      try ((repeat' apply And.intro) <;> rfl)
    clear e1 e2 e3 e4 m1 m2 m3 mg mc mt mo mu mh E σ
    rintro k E σ ⟨i, hk, hil, e6, e5, ⟨e1, e2, e3, m1, m2, m3, mg, mc, mt, mo, mu⟩, mh, m5⟩
    simp -implicitDefEqProofs (disch := omega) only [go_sem, e5, e6, e1, e2, e3, m1, m2, m3, mg, mc, mt, mo, mu, mh, m5]
    refine Jab (fun hc => ?_) (fun hc => ?_)
    rotate_left
    . obtain rfl : i = min x.hops.length 6 := by omega
      simp -implicitDefEqProofs (disch := omega) only [go_sem, mdI, e5, e6, e1, e2, e3, m1, m2, m3, mg, mc, mt, mo, mu, mh, m5, false_and, and_self]; try rfl
    simp -implicitDefEqProofs (disch := omega) only [go_sem, e5, e6, e1, e2, e3, m1, m2, m3, mg, mc, mt, mo, mu, mh, m5]
    refine Jab (fun hc2 => ?_) (fun hc2 => ?_)
    rotate_left
    . obtain rfl : i = min x.hops.length 6 := by omega
      simp -implicitDefEqProofs (disch := omega) only [go_sem, mdI, e5, e6, e1, e2, e3, m1, m2, m3, mg, mc, mt, mo, mu, mh, m5, false_and, and_self]; try rfl
    have hil2 : i < x.hops.length := by omega
    have hnl := JaU x.hops i
    obtain ⟨r1, r2⟩ := hx.hops _ (Jao x.hops i hil2)
    have c1 := JaH (gd x.hops i).1 8 r1 (by omega)
    have c2 := JaH (gd x.hops i).2 4 r2 (by omega)
    have c3 := JaH (gd x.hops i).1 7 r1 (by omega)
    have p1 := Jai (c := (gd x.hops i).1) (n := 8) (by omega)
    have p2 := Jai (c := (gd x.hops i).2) (n := 4) (by omega)
    have p3 := Jai (c := (gd x.hops i).1) (n := 7) (by omega)
    have hla : (0 <= (gd (hopN x.hops i) (i - 1)).1 /\ (gd (hopN x.hops i) (i - 1)).1 <= 7) /\ 0 <= (gd (hopN x.hops i) (i - 1)).2 /\ (gd (hopN x.hops i) (i - 1)).2 <= 20 := by
      by_cases h0 : i = 0
      . subst h0; rw [hn0, JsH]; decide
      . exact Jgz x.hops i _ (Jao _ _ (by rw [hnl]; omega))
    have hs : hopN x.hops (i + 1) = hopN x.hops i ++ [hopF (gd x.hops i) (gd (hopN x.hops i) (i - 1)) i] := rfl
    have hF : hopF (gd x.hops i) (gd (hopN x.hops i) (i - 1)) i = (if i = 0 then Jaf (gd x.hops i).1 8 else ((gd (hopN x.hops i) (i - 1)).1 + 1 + Jaf (gd x.hops i).1 7).tmod 8, min ((gd (hopN x.hops i) (i - 1)).2 + Jaf (gd x.hops i).2 4) 20) := rfl
    have hg : gd (hopN x.hops (i + 1)) (i + 1 - 1) = hopF (gd x.hops i) (gd (hopN x.hops i) (i - 1)) i := by
      rw [hs, L10, Jaz _ _ _ (by omega), hnl, L1h, Jan]
    generalize hopF (gd x.hops i) (gd (hopN x.hops i) (i - 1)) i = h at *; generalize hH' : hopN x.hops (i + 1) = H' at *; generalize gd (hopN x.hops i) (i - 1) = la at *; generalize hopN x.hops i = H at *; obtain ⟨la1, la2⟩ := la; obtain ⟨h1, h2⟩ := h; simp only [Prod.mk.injEq] at hF hla; obtain ⟨hF1, hF2⟩ := hF; generalize Jaf (gd x.hops i).1 8 = w1 at *; generalize Jaf (gd x.hops i).2 4 = w2 at *; generalize Jaf (gd x.hops i).1 7 = w3 at *
    have qt : H.take i = H := L0a (by omega)
    simp -implicitDefEqProofs (disch := omega) only [go_sem, e5, e6, e1, e2, e3, m1, m2, m3, mg, mc, mt, mo, mu, mh, m5, false_and, and_self]
    refine Jaa c1 ?_
    simp -implicitDefEqProofs (disch := omega) only [go_sem, e5, e6, e1, e2, e3, m1, m2, m3, mg, mc, mt, mo, mu, mh, m5, false_and, and_self]
    refine Jaa c2 ?_
    simp -implicitDefEqProofs (disch := omega) only [go_sem, e5, e6, e1, e2, e3, m1, m2, m3, mg, mc, mt, mo, mu, mh, m5, false_and, and_self]
    refine JbM (fun E σ => E 6 = I i /\ E 5 = .ptr 29360208 2 0 0 /\ E 7 = .ptr 29360240 2 0 0 /\ mdI x (.own 29360177 2 0 i) [] C8 T8 O8 [] E σ /\ σ 29360177 = some ⟨88, 2, H.map HPP⟩ /\ σ 29360208 = some ⟨88, 2, [HPP (la1, la2)]⟩ /\ σ 29360240 = some ⟨88, 2, [HPP (h1, h2)]⟩) (fun h0 => ?_) (fun h0 => ?_) ?_
    . rw [if_neg (by omega)] at hF1
      simp -implicitDefEqProofs (disch := omega) only [go_sem, e5, e6, e1, e2, e3, m1, m2, m3, mg, mc, mt, mo, mu, mh, m5, false_and, and_self]
      refine Jaa c3 ?_
      simp -implicitDefEqProofs (disch := omega) only [go_sem, mdI, e5, e6, e1, e2, e3, m1, m2, m3, mg, mc, mt, mo, mu, mh, m5, hF1, hF2, false_and, and_self]; try rfl
    . rw [if_pos (by omega)] at hF1
      simp -implicitDefEqProofs (disch := omega) only [go_sem, mdI, e5, e6, e1, e2, e3, m1, m2, m3, mg, mc, mt, mo, mu, mh, m5, hF1, hF2, false_and, and_self]; try rfl
    clear e5 e6 e1 e2 e3 m1 m2 m3 mg mc mt mo mu mh m5 E σ
    rintro E σ ⟨e6, e5, e7, ⟨e1, e2, e3, m1, m2, m3, mg, mc, mt, mo, mu⟩, mh, m5, m7⟩
    simp -implicitDefEqProofs (disch := omega) only [go_sem, e5, e6, e7, e1, e2, e3, m1, m2, m3, mg, mc, mt, mo, mu, mh, m5, m7, hnl, qt, false_and, and_self]
    refine Jad (6 - (i + 1)) (by omega) ⟨i + 1, by omega, by omega, ?_⟩
    rw [hH', hg, hs]; simp -implicitDefEqProofs (disch := omega) only [go_sem, mdI, e5, e6, e7, e1, e2, e3, m1, m2, m3, mg, mc, mt, mo, mu, mh, m5, m7, hnl, qt, L07, L0g, L0x, false_and, and_self]; try simp
  clear e1 e2 e3 e4 m1 m2 m3 mg mc mt mo mu mh E σ
  have hHm : (hopN x.hops (min x.hops.length 6)).length = min x.hops.length 6 := JaU _ _
  have hHF : JaA x.hops = if x.hops = [] then [(0, 0)] else hopN x.hops (min x.hops.length 6) := rfl
  have hLH : gd (hopN x.hops (min x.hops.length 6)) (min x.hops.length 6 - 1) = Jcx x.hops := by
    unfold Jcx
    by_cases h0 : x.hops = []
    . rw [hHF, if_pos h0, h0]; rfl
    . rw [hHF, if_neg h0, hHm]
  rw [hLH]; clear hLH
  rintro E σ ⟨e5, ⟨e1, e2, e3, m1, m2, m3, mg, mc, mt, mo, mu⟩, mh, m5⟩
  simp -implicitDefEqProofs (disch := omega) only [go_sem, e5, e1, e2, e3, m1, m2, m3, mg, mc, mt, mo, mu, mh, m5]
  have qHm : (hopN x.hops (min x.hops.length 6)).take (min x.hops.length 6) = hopN x.hops (min x.hops.length 6) := L0a (by omega)
  refine Jay Plain.mono [29360177] ?_
  simp -implicitDefEqProofs (disch := omega) only [go_sem, e5, e1, e2, e3, m1, m2, m3, mg, mc, mt, mo, mu, mh, m5, qHm, hHm, L04, false_and, and_self]
  refine JbM (fun E σ => E 5 = .ptr 29360208 2 0 0 /\ mdI x (HPS (JaA x.hops)) [] C8 T8 O8 [] E σ /\ σ 29360208 = some ⟨88, 2, [HPP (Jcx x.hops)]⟩) (fun h0 => ?_) (fun h0 => ?_) ?_
  . have hnil : x.hops = [] := L0L (by omega)
    rw [if_pos hnil] at hHF; rw [hHF]; simp -implicitDefEqProofs (disch := omega) only [go_sem, e5, e1, e2, e3, m1, m2, m3, mg, mc, mt, mo, mu, mh, m5, qHm, hHm, L04, false_and, and_self]
    refine JkN [29362000] ?_
    refine Jds Plain.mono ?_
    simp -implicitDefEqProofs (disch := omega) only [go_sem, mdI, e5, e1, e2, e3, m1, m2, m3, mg, mc, mt, mo, mu, mh, m5, qHm, hHm, L04, false_and, and_self]; try rfl
  . have hnil : x.hops ≠ [] := fun h => by rw [h] at h0; exact h0 rfl
    rw [if_neg hnil] at hHF; rw [hHF]; simp -implicitDefEqProofs (disch := omega) only [go_sem, mdI, e5, e1, e2, e3, m1, m2, m3, mg, mc, mt, mo, mu, mh, m5, qHm, hHm, L04, false_and, and_self]; try rfl
  clear hHF hHm qHm e5 e1 e2 e3 m1 m2 m3 mg mc mt mo mu mh m5 E σ; generalize JaA x.hops = HS at *
  rintro E σ ⟨e5, ⟨e1, e2, e3, m1, m2, m3, mg, mc, mt, mo, mu⟩, m5⟩
  simp -implicitDefEqProofs (disch := omega) only [go_sem, e5, e1, e2, e3, m1, m2, m3, mg, mc, mt, mo, mu, m5]
  -- updates
  have hu0 : upsN 0 = [] := rfl
  obtain ⟨n, hn⟩ : ∃ n : Nat, ((Jcx x.hops).2 + 2).toNat = n := ⟨_, rfl⟩
  rw [hn] at cw ⊢; generalize Jcx x.hops = la at *; obtain ⟨la1, la2⟩ := la
  simp only at *
  refine Jag (fun k E σ => ∃ i : Nat, i + k = n /\ E 8 = I i /\ E 5 = .ptr 29360208 2 0 0 /\ mdI x (HPS HS) [] C8 T8 O8 (upsN i) E σ /\ σ 29360208 = some ⟨88, 2, [HPP (la1, la2)]⟩) n ⟨0, by omega, ?_⟩ ?_
  . simp -implicitDefEqProofs (disch := omega) only [go_sem, mdI, hu0, e5, e1, e2, e3, m1, m2, m3, mg, mc, mt, mo, mu, m5, false_and, and_self]
    try ((repeat' apply And.intro) <;> rfl)
  clear e5 e1 e2 e3 m1 m2 m3 mg mc mt mo mu m5 E σ
  rintro k E σ ⟨i, hk, e8, e5, ⟨e1, e2, e3, m1, m2, m3, mg, mc, mt, mo, mu⟩, m5⟩
  simp -implicitDefEqProofs (disch := omega) only [go_sem, e5, e8, e1, e2, e3, m1, m2, m3, mg, mc, mt, mo, mu, m5]
  refine Jab (fun hc => ?_) (fun hc => ?_)
  . have b1 := Jko i (by omega)
    have s1 := Jkp i; have ul := Jbl i; generalize updS i = US at *; generalize hU' : upsN (i + 1) = U' at *; generalize upsN i = U at *
    have qt : U.take i = U := L0a (by omega)
    simp -implicitDefEqProofs (disch := omega) only [go_sem, e5, e8, e1, e2, e3, m1, m2, m3, mg, mc, mt, mo, mu, m5, false_and, and_self]
    refine Jaa b1 ?_
    simp -implicitDefEqProofs (disch := omega) only [go_sem, e5, e8, e1, e2, e3, m1, m2, m3, mg, mc, mt, mo, mu, m5, ul, qt, false_and, and_self]
    refine Jad (n - (i + 1)) (by omega) ⟨i + 1, by omega, ?_⟩
    rw [hU', s1]; simp -implicitDefEqProofs (disch := omega) only [go_sem, mdI, e5, e8, e1, e2, e3, m1, m2, m3, mg, mc, mt, mo, mu, m5, ul, qt, L07, L0g, L0x, false_and, and_self]
    try simp [ul]
  obtain rfl : i = n := by omega
  have ul := Jbl i; generalize upsN i = U at *
  have qtu : U.take i = U := L0a (by omega)
  simp -implicitDefEqProofs (disch := omega) only [go_sem, e5, e8, e1, e2, e3, m1, m2, m3, mg, mc, mt, mo, mu, m5]
  -- legs
  have hg0 : lgN x HS 0 = [] := rfl
  refine Jag (fun k E σ => ∃ i : Nat, i + k = HS.length - 1 /\ E 9 = I i /\ mdI x (HPS HS) (lgN x HS i) C8 T8 O8 U E σ) (HS.length - 1) ⟨0, by omega, ?_⟩ ?_
  . simp -implicitDefEqProofs (disch := omega) only [go_sem, mdI, hg0, e1, e2, e3, m1, m2, m3, mg, mc, mt, mo, mu, false_and, and_self]
    try ((repeat' apply And.intro) <;> rfl)
  clear e5 e8 e1 e2 e3 m1 m2 m3 mg mc mt mo mu m5 E σ hk hc k
  rintro k E σ ⟨v, hk, e9, e1, e2, e3, m1, m2, m3, mg, mc, mt, mo, mu⟩
  have hvv : ((v : Int) + 1).toNat = v + 1 := by omega
  simp -implicitDefEqProofs (disch := omega) only [go_sem, e9, e1, e2, e3, m1, m2, m3, mg, mc, mt, mo, mu]
  refine Jab (fun hc => ?_) (fun hc => ?_)
  rotate_left
  . obtain rfl : v = HS.length - 1 := by omega
    generalize lgN x HS (HS.length - 1) = G at *
    have qg : G.take (HS.length - 1) = G := L0a (by omega)
    have qc : C8.take C8.length = C8 := L0c
    have qt : T8.take T8.length = T8 := L0c
    have qo : O8.take O8.length = O8 := L0c
    simp -implicitDefEqProofs (disch := omega) only [go_sem, e9, e1, e2, e3, m1, m2, m3, mg, mc, mt, mo, mu]
    refine Jay Plain.mono [29360178, 29360179, 29360180, 29360181, 29360182] ?_
    simp -implicitDefEqProofs (disch := omega) only [go_sem, e9, e1, e2, e3, m1, m2, m3, mg, mc, mt, mo, mu, hlen1, ul, qg, qc, qt, qo, qtu, L04, false_and, and_self]
    refine Jaa cw ?_
    simp -implicitDefEqProofs (disch := omega) only [go_sem, e9, e1, e2, e3, m1, m2, m3, mg, mc, mt, mo, mu, hlen1, ul, qg, qc, qt, qo, qtu, L04, false_and, and_self, results13]; try rfl
  have hv1 : v < HS.length := by omega
  have hv2 : v + 1 < HS.length := by omega
  have hgl := Jo1 x HS v; have s1 := Jri x HS v
  have hlm : legM x HS v = ⟨(gd HS v).1, (gd HS (v + 1)).1, (crsF x (gd HS v).1.toNat).cnt (Jaf (legY x v).1 2000) (Jaf (legY x v).1 2000 + Jaf (legY x v).2.1 900), if Jaf (legY x v).2.2 4 = 3 then ⟨((crsF x (gd HS (v + 1)).1.toNat).cnt (Jaf (legY x v).1 2000) (Jaf (legY x v).1 2000 + Jaf (legY x v).2.1 900)).b, ((crsF x (gd HS (v + 1)).1.toNat).cnt (Jaf (legY x v).1 2000) (Jaf (legY x v).1 2000 + Jaf (legY x v).2.1 900)).e + Jaf (legY x v).2.2 400⟩ else (crsF x (gd HS (v + 1)).1.toNat).cnt (Jaf (legY x v).1 2000) (Jaf (legY x v).1 2000 + Jaf (legY x v).2.1 900)⟩ := rfl
  have hY : legY x v = if x.legs = [] then (100 * (v : Int), 60, 0) else gd x.legs (v % x.legs.length) := rfl
  have hi1 := hHi _ (Jao HS v hv1); have hi2 := hHi _ (Jao HS (v + 1) hv2)
  have hYr : T3ok (legY x v) := by
    rw [hY]
    split
    . refine ⟨⟨?_, ?_⟩, ⟨?_, ?_⟩, ⟨?_, ?_⟩⟩ <;> simp only <;> omega
    . rename_i hne
      exact hx.legs _ (Jao _ _ (L1e _ (L18.2 hne)))
  obtain ⟨y1, y2, y3⟩ := hYr
  have a1 := Jai (c := (legY x v).1) (n := 2000) (by omega)
  have a2 := Jai (c := (legY x v).2.1) (n := 900) (by omega)
  have a3 := Jai (c := (legY x v).2.2) (n := 400) (by omega)
  have d1 := JaH (legY x v).1 2000 y1 (by omega)
  have d2 := JaH (legY x v).2.1 900 y2 (by omega)
  have d3 := JaH (legY x v).2.2 400 y3 (by omega)
  have d4 := JaH (legY x v).2.2 4 y3 (by omega)
  have n1 : (((gd HS v).1.toNat : Nat) : Int) = (gd HS v).1 := by omega
  have n2 : (((gd HS (v + 1)).1.toNat : Nat) : Int) = (gd HS (v + 1)).1 := by omega
  have f1 := Jgo x (gd HS v).1.toNat hx.crsL (by omega)
  have f2 := Jgo x (gd HS (v + 1)).1.toNat hx.crsL (by omega)
  rw [n1] at f1; rw [n2] at f2
  have g1 := Jht (crsF x (gd HS v).1.toNat) (Jaf (legY x v).1 2000) (Jaf (legY x v).1 2000 + Jaf (legY x v).2.1 900) (JkG hx _) (by omega) (by omega)
  have g2 := Jht (crsF x (gd HS (v + 1)).1.toNat) (Jaf (legY x v).1 2000) (Jaf (legY x v).1 2000 + Jaf (legY x v).2.1 900) (JkG hx _) (by omega) (by omega)
  have g3 : ((crsF x (gd HS (v + 1)).1.toNat).cnt (Jaf (legY x v).1 2000) (Jaf (legY x v).1 2000 + Jaf (legY x v).2.1 900)).e <= 9000 := by
    have hd := Jai (c := (crsF x (gd HS (v + 1)).1.toNat).d) (n := 101) (by omega)
    have := (JdQ (d := Jaf (crsF x (gd HS (v + 1)).1.toNat).d 101) (by omega) (crsF x (gd HS (v + 1)).1.toNat).s (crsF x (gd HS (v + 1)).1.toNat).r (t := Jaf (legY x v).1 2000 + Jaf (legY x v).2.1 900) (by omega)).2
    simp only [Cr.cnt, Cr.show]; omega
  have g4 := (Jcr.1 (Joe (crsF x (gd HS (v + 1)).1.toNat) (f := Jaf (legY x v).1 2000) (t := Jaf (legY x v).1 2000 + Jaf (legY x v).2.1 900) (by omega) (by omega) (by omega)))
  generalize hK1 : (crsF x (gd HS v).1.toNat).cnt (Jaf (legY x v).1 2000) (Jaf (legY x v).1 2000 + Jaf (legY x v).2.1 900) = K1 at *; generalize hK2 : (crsF x (gd HS (v + 1)).1.toNat).cnt (Jaf (legY x v).1 2000) (Jaf (legY x v).1 2000 + Jaf (legY x v).2.1 900) = K2 at *; clear hK1 hK2; generalize crsF x (gd HS v).1.toNat = R1 at *; generalize crsF x (gd HS (v + 1)).1.toNat = R2 at *; generalize Jaf (legY x v).1 2000 = w1 at *; generalize Jaf (legY x v).2.1 900 = w2 at *; generalize Jaf (legY x v).2.2 400 = w3 at *; generalize Jaf (legY x v).2.2 4 = w4 at *; generalize hLM : legM x HS v = LM at *; generalize hG' : lgN x HS (v + 1) = G' at *; generalize lgN x HS v = G at *
  have qg : G.take v = G := L0a (by omega)
  have y1 := y1; simp -implicitDefEqProofs (disch := omega) only [go_sem, e9, e1, e2, e3, m1, m2, m3, mg, mc, mt, mo, mu, false_and, and_self]
  refine JbM (fun E σ => E 9 = I v /\ E 10 = .ptr 29360288 3 0 0 /\ mdI x (HPS HS) G C8 T8 O8 U E σ /\ σ 29360288 = some ⟨29, 3, [.agg [I (legY x v).1, I (legY x v).2.1, I (legY x v).2.2]]⟩) (fun h0 => ?_) (fun h0 => ?_) ?_
  . have hne : x.legs ≠ [] := fun h => by rw [h] at h0; exact absurd h0 (by decide)
    rw [if_neg hne] at hY; have hlp := L18.2 hne
    have hm : ((v : Int)).tmod x.legs.length = ((v % x.legs.length : Nat) : Int) := by rw [L13 (by omega)]; omega
    have hlt : v % x.legs.length < x.legs.length := L1e _ hlp
    generalize v % x.legs.length = j at *; rw [hY]; simp -implicitDefEqProofs (disch := omega) only [go_sem, mdI, e9, e1, e2, e3, m1, m2, m3, mg, mc, mt, mo, mu, hm, false_and, and_self]; try rfl
  . have hnil : x.legs = [] := L0L (by omega)
    rw [if_pos hnil] at hY; rw [hY]; simp -implicitDefEqProofs (disch := omega) only [go_sem, mdI, e9, e1, e2, e3, m1, m2, m3, mg, mc, mt, mo, mu, false_and, and_self]; try rfl
  clear e9 e1 e2 e3 m1 m2 m3 mg mc mt mo mu E σ hY
  rintro E σ ⟨e9, e10, ⟨e1, e2, e3, m1, m2, m3, mg, mc, mt, mo, mu⟩, m10⟩
  generalize (legY x v).1 = u1 at *; generalize (legY x v).2.1 = u2 at *; generalize (legY x v).2.2 = u3 at *; simp -implicitDefEqProofs (disch := omega) only [go_sem, e9, e10, e1, e2, e3, m1, m2, m3, mg, mc, mt, mo, mu, m10, false_and, and_self]
  refine Jaa d1 ?_
  simp -implicitDefEqProofs (disch := omega) only [go_sem, e9, e10, e1, e2, e3, m1, m2, m3, mg, mc, mt, mo, mu, m10, false_and, and_self]
  refine Jaa d2 ?_
  simp -implicitDefEqProofs (disch := omega) only [go_sem, e9, e10, e1, e2, e3, m1, m2, m3, mg, mc, mt, mo, mu, m10, hvv, false_and, and_self]
  refine Jaa f1 ?_ (h4 := by first | exact .inl rfl | exact .inr (Joi _))
  simp -implicitDefEqProofs (disch := omega) only [go_sem, e9, e10, e1, e2, e3, m1, m2, m3, mg, mc, mt, mo, mu, m10, hvv, false_and, and_self]
  refine Jaa g1 ?_
  simp -implicitDefEqProofs (disch := omega) only [go_sem, e9, e10, e1, e2, e3, m1, m2, m3, mg, mc, mt, mo, mu, m10, hvv, false_and, and_self]
  refine Jaa f2 ?_ (h4 := by first | exact .inl rfl | exact .inr (Joi _))
  simp -implicitDefEqProofs (disch := omega) only [go_sem, e9, e10, e1, e2, e3, m1, m2, m3, mg, mc, mt, mo, mu, m10, hvv, false_and, and_self]
  refine Jaa g2 ?_
  simp -implicitDefEqProofs (disch := omega) only [go_sem, e9, e10, e1, e2, e3, m1, m2, m3, mg, mc, mt, mo, mu, m10, hvv, false_and, and_self]
  refine Jaa d4 ?_
  simp -implicitDefEqProofs (disch := omega) only [go_sem, e9, e10, e1, e2, e3, m1, m2, m3, mg, mc, mt, mo, mu, m10, hvv, false_and, and_self]
  refine JbM (fun E σ => E 9 = I v /\ E 13 = .ptr 29360336 6 0 0 /\ mdI x (HPS HS) G C8 T8 O8 U E σ /\ σ 29360336 = some ⟨33, 6, [LGP LM]⟩) (fun h0 => ?_) (fun h0 => ?_) ?_
  . rw [if_pos h0] at hlm; rw [hlm]; simp -implicitDefEqProofs (disch := omega) only [go_sem, e9, e10, e1, e2, e3, m1, m2, m3, mg, mc, mt, mo, mu, m10, false_and, and_self]
    refine Jaa d3 ?_
    simp -implicitDefEqProofs (disch := omega) only [go_sem, mdI, e9, e10, e1, e2, e3, m1, m2, m3, mg, mc, mt, mo, mu, m10, false_and, and_self]; try rfl
  . rw [if_neg h0] at hlm; rw [hlm]; simp -implicitDefEqProofs (disch := omega) only [go_sem, mdI, e9, e10, e1, e2, e3, m1, m2, m3, mg, mc, mt, mo, mu, m10, false_and, and_self]; try rfl
  clear e9 e10 e1 e2 e3 m1 m2 m3 mg mc mt mo mu m10 E σ hlm
  rintro E σ ⟨e9, e13, ⟨e1, e2, e3, m1, m2, m3, mg, mc, mt, mo, mu⟩, m13⟩
  simp -implicitDefEqProofs (disch := omega) only [go_sem, e9, e13, e1, e2, e3, m1, m2, m3, mg, mc, mt, mo, mu, m13, hgl, qg, false_and, and_self]
  refine Jad (HS.length - 1 - (v + 1)) (by omega) ⟨v + 1, by omega, ?_⟩
  rw [hG', s1]; simp -implicitDefEqProofs (disch := omega) only [go_sem, mdI, e9, e13, e1, e2, e3, m1, m2, m3, mg, mc, mt, mo, mu, m13, hgl, qg, L07, L0g, L0x, false_and, and_self]
  try simp [hgl]
def lA : Lg := ⟨1, 2, ⟨10, 70⟩, ⟨510, 570⟩⟩
def lB : Lg := ⟨1, 2, ⟨10, 70⟩, ⟨520, 570⟩⟩
theorem sp1 : Jde oneC lA.g = some ⟨(1010, 1010), (1070, 1070)⟩ := by decide +kernel
theorem sp2 : Jde twoC lA.k = some ⟨(1010, 1014), (1070, 1074)⟩ := by decide +kernel
theorem ag1 : Jeq oneC twoC lA = some ⟨(1010, 1010), (1070, 1070)⟩ := by decide +kernel
theorem ag2 : Jeq oneC twoC lB = none := by decide +kernel
theorem lgA : legF lA = true := by decide +kernel
theorem lgB : legF lB = true := by decide +kernel
theorem rcA : recF lA 1 = ⟨#[16, 2, 4, 2, 20, 140, 1]⟩ := by decide +kernel
def xS : ByteArray := ⟨#[120]⟩
def yS : ByteArray := ⟨#[121]⟩
def exE : List ByteArray := [xS, recF lB 2, recF lB 1]
theorem fi1 : JaK exE (recF lB 1) (recF lB 2) = 2 := by decide +kernel
theorem fi2 : JaK exE (recF lB 2) (recF lB 1) = 1 := by decide +kernel
theorem fi3 : JaK [] (recF lB 2) (recF lB 1) = 0 := by decide +kernel
theorem fi4 : JaK exE xS (recF lB 1) = 1 := by decide +kernel
theorem fi5 : JaK exE (recF lB 1) yS = 1 := by decide +kernel
theorem bw1 : Jes exE oneC twoC lB = ((1024, 1070), 2) := by decide +kernel
theorem bw2 : Jes [] oneC twoC lB = ((0, 0), 0) := by decide +kernel
theorem bw3 : Jes [] oneC twoC lA = ((1010, 1070), 0) := by decide +kernel
def exR : Rg := ⟨0, exE⟩
theorem JsD : regB exR = true := by decide +kernel
def exP : Pt := ⟨JeC (keyF 0) exR 3, ([0, 1, 2] : List Int).map fun i => JbD exR 3 i.toNat⟩
def exQ : Pt := ⟨JeC (keyF 0) exR 3, ([1, 2] : List Int).map fun i => JbD exR 3 i.toNat⟩
theorem shP : JdX (keyF 0) exR 3 [0, 1, 2] = some exP := by
 unfold JdX
 rw [if_pos ⟨JeE 0, JsD, by decide, by decide⟩]; rfl
theorem shQ : JdX (keyF 0) exR 3 [1, 2] = some exQ := by
 unfold JdX
 rw [if_pos ⟨JeE 0, JsD, by decide, by decide⟩]; rfl
theorem Jjt : PtOK exP := Jg9 shP (by decide)
theorem Joo : PtOK exQ := Jg9 shQ (by decide)
theorem evP : evF (keyF 0) exP = exE := by
 unfold evF; rw [if_pos (Jb8 shP).1]
 show preN 0 [JbD exR 3 0, JbD exR 3 1, JbD exR 3 2] = _
 simp [preN, JbD]
 rfl
theorem evQ : evF (keyF 0) exQ = [] := by
 unfold evF; rw [if_pos (Jb8 shQ).1]
 show preN 0 [JbD exR 3 1, JbD exR 3 2] = _
 simp [preN, JbD]
def exN (w : List Int) : Nm := ⟨[(1, 0), (0, 1), (0, 1)], [], [], [600], [], [], w⟩
theorem Jl7 (x : Nm) : evF (Jav x).key (Jav x).part = preF (Jav x).part := by
 unfold evF
 exact if_pos (Jkr _ _ _)
theorem Jon (w : List Int) (f : ∀ n ∈ w, R64 n) (c : w.length <= 9223372036854775807) : (exN w).ok where
 hops := show ∀ h ∈ [((1 : Int), (0 : Int)), (0, 1), (0, 1)], R64 h.1 /\ R64 h.2 from fun h b => by
  simp only [L0h, L1Y, or_false] at b
  rcases b with rfl | rfl | rfl <;> exact ⟨⟨by decide, by decide⟩, by decide, by decide⟩
 hopsL := show ([((1 : Int), (0 : Int)), (0, 1), (0, 1)] : List (Int × Int)).length <= _ by decide
 legs := fun q h => by cases h
 legsL := L14 _
 crs := fun q h => by cases h
 crsL := L14 _
 bases := fun n d => by
  obtain rfl := L0p.1 (show n ∈ [(600 : Int)] from d)
  exact ⟨by decide, by decide⟩
 basesL := show ([600] : List Int).length <= _ by decide
 rates := fun q h => by cases h
 ratesL := L14 _
 offs := fun q h => by cases h
 offsL := L14 _
 wit := f
 witL := c
theorem Jiq (w : List Int) : (Jav (exN w)).hops = [(1, 0), (2, 1), (3, 2)] := by
 show JaA [(1, 0), (0, 1), (0, 1)] = _
 decide +kernel
theorem Jop (w : List Int) : (Jav (exN w)).ups = upsN 4 := by
 show upsN ((Jcx [(1, 0), (0, 1), (0, 1)]).2 + 2).toNat = _
 have : ((Jcx [(1, 0), (0, 1), (0, 1)]).2 + 2).toNat = 4 := by decide +kernel
 rw [this]
theorem JsF (a b : Int) (c : Jaf (a.tdiv 128) 8 ≠ 7) (d : Jaf (b.tdiv 128) 8 ≠ 7) : preF (Jav (exN [a, b])).part = [witE JaO (upsN 4) (Jav (exN [a, b])).legs a, witE JaO (upsN 4) (Jav (exN [a, b])).legs b] := by
 have g : upsN ((Jcx (exN [a, b]).hops).2 + 2).toNat = upsN 4 := Jop [a, b]
 show preN 0 ((witN [a, b] 2).map fun i => JbD (witR JaO (upsN ((Jcx (exN [a, b]).hops).2 + 2).toNat) (Jav (exN [a, b])).legs [a, b]) 2 i.toNat) = _
 rw [g]
 have f : witN [a, b] 2 = [0, 1] := by
  simp [witN, gd, c, d]
 rw [f]
 simp [preN, JbD, witR]
 rfl
theorem JtN : payF (Jav (exN [4, 0])) 1 = 1 := by
 unfold payF
 rw [Jl7, JsF 4 0 (by decide) (by decide), Jiq, Jop]
 have b : witE JaO (upsN 4) (Jav (exN [4, 0])).legs 4 = updS 1 := by
  unfold witE; rw [if_pos (by decide)]; decide +kernel
 have c : witE JaO (upsN 4) (Jav (exN [4, 0])).legs 0 = JaO := by
  unfold witE; rw [if_neg (by decide), if_neg (fun h => absurd h.1 (by decide))]
 rw [b, c]
 decide +kernel
theorem JtO : payF (Jav (exN [0, 4])) 1 = 2 := by
 unfold payF
 rw [Jl7, JsF 0 4 (by decide) (by decide), Jiq, Jop]
 have b : witE JaO (upsN 4) (Jav (exN [0, 4])).legs 4 = updS 1 := by
  unfold witE; rw [if_pos (by decide)]; decide +kernel
 have c : witE JaO (upsN 4) (Jav (exN [0, 4])).legs 0 = JaO := by
  unfold witE; rw [if_neg (by decide), if_neg (fun h => absurd h.1 (by decide))]
 rw [b, c]
 decide +kernel
theorem Jgq (w : List Int) : (Jav (exN w)).legs.length = 2 := by
 show (Jhj (exN w) (JaA [(1, 0), (0, 1), (0, 1)])).length = 2
 rw [Jdq]; decide +kernel
theorem JsE (w : List Int) {i : Nat} (hi : i < 2) : (gd (Jav (exN w)).legs i).t = (gd [((1 : Int), (0 : Int)), (2, 1), (3, 2)] (i + 1)).1 := by
 have h := (Jmr (Ja7 (exN w)) (i := i) (by rw [Jgq]; exact hi)).2.2
 rw [Jiq] at h; exact h
theorem Jq2 : (JbW (Jav (exN [4, 0]))).length = 2 /\ (gd (JbW (Jav (exN [4, 0]))) 0).p = 1 /\ (gd (JbW (Jav (exN [4, 0]))) 0).q = 2 /\ (gd (JbW (Jav (exN [4, 0]))) 1).p = 1 /\ (gd (JbW (Jav (exN [4, 0]))) 1).q = 3 := by
 refine ⟨by rw [Jb5, Jgq], ?_⟩
 rw [Jet _ (by rw [Jgq]; omega), Jet _ (by rw [Jgq]; omega)]
 refine ⟨?_, JsE _ (by omega), JtN, JsE _ (by omega)⟩
 show payF (Jav (exN [4, 0])) 0 = 1
 unfold payF
 rw [if_pos rfl, Jiq]; rfl
theorem JgG (x : Nm) (d : x.ok) : (Jav x).ok where
 part := Jy0 _ _ _
 rds := fun c b => by
  have := JaT.1 (Ja7 x)
  have := (Je3.1 (L0b.1 this.2.2.1 c b)).1.2.2
  omega
 good := L0b.1 (JaT.1 (Ja7 x)).2.2.2.1
 hops := by have := (JaT.1 (Ja7 x)).2.1; omega
 legs := by have := (JaT.1 (Ja7 x)).2.1; omega
 cks := by have := (JaT.1 (Ja7 x)).2.1; omega
 tfs := by have := (JaT.1 (Ja7 x)).2.1; omega
 offs := by have := (JaT.1 (Ja7 x)).2.1; omega
 ups := by have := (JaT.1 (Ja7 x)).2.1; omega
theorem JlL (a b : Int) (ha : R64 a) (hb : R64 b) : Ev prog 13 [.agg [.sl 2 [.agg [I 1, I 0], .agg [I 0, I 1], .agg [I 0, I 1]], .v (.slice none 0 0), .v (.slice none 0 0), .sl 1 [I 600], .v (.slice none 0 0), .v (.slice none 0 0), .sl 1 [I a, I b]]] (TPP (Jav (exN [a, b]))) :=
  (JgH (exN [a, b]) (Jon [a, b] (by intro n hn; rcases L0h.1 hn with rfl | hn; exact ha; obtain rfl := L0p.1 hn; exact hb) (by simp))).asIf ⟨JqA ⟨Jge _, JfV 3, JfV 4, Jge _, JfV 4, JfV 1, Jge _, trivial⟩, trivial⟩
set_option maxHeartbeats 16000000 in
theorem JpO : Ev prog 12 [] (B true) := by
 have c : oneC.r.length <= 9223372036854775807 := by decide
 have d : twoC.r.length <= 9223372036854775807 := by decide
 have l := Jyd; have f := JyX
 have H : Ev prog 37 [CKP oneC, .agg [I 10, I 70]] (.tup [.agg [I 1010, I 1010, I 1070, I 1070], I 0]) := by
  have := JdS oneC lA.g c
  rw [sp1] at this; exact this
 have J : Ev prog 37 [CKP twoC, .agg [I 510, I 570]] (.tup [.agg [I 1010, I 1014, I 1070, I 1074], I 0]) := by
  have := JdS twoC lA.k d
  rw [sp2] at this; exact this
 have K : Ev prog 29 [CKP oneC, CKP twoC, .agg [I 1, I 2, I 10, I 70, I 510, I 570]] (.tup [.agg [I 1010, I 1010, I 1070, I 1070], B true]) := by
  have := Jga oneC twoC lA c d
  rw [ag1] at this; exact this
 have M : Ev prog 29 [CKP oneC, CKP twoC, .agg [I 1, I 2, I 10, I 70, I 520, I 570]] (.tup [.agg [I 0, I 0, I 0, I 0], B false]) := by
  have := Jga oneC twoC lB c d
  rw [ag2] at this; exact this
 have N : Ev prog 35 [.agg [I 1, I 2, I 10, I 70, I 510, I 570], I 1] (.tup [Str ⟨#[16, 2, 4, 2, 20, 140, 1]⟩, I 0]) := by
  have := JhT lA 1
  rw [recV, if_pos ⟨lgA, by decide⟩, rcA] at this; exact this
 have O : Ev prog 35 [.agg [I 1, I 2, I 10, I 70, I 520, I 570], I 2] (.tup [Str (recF lB 2), I 0]) := by
  have := JhT lB 2
  rw [recV, if_pos ⟨lgB, by decide⟩] at this; exact this
 have P : Ev prog 35 [.agg [I 1, I 2, I 10, I 70, I 520, I 570], I 1] (.tup [Str (recF lB 1), I 0]) := by
  have := JhT lB 1
  rw [recV, if_pos ⟨lgB, by decide⟩] at this; exact this
 have Q : Ev prog 35 [.agg [I 1, I 2, I 10, I 70, I 510, I 570], I 3] (.tup [Str ⟨#[]⟩, I 380]) := by
  have := JhT lA 3
  rw [recV, if_neg (fun h => absurd h.2 (by decide))] at this; exact this
 have R := JoV 0 (by omega)
 have s : Ev prog 32 [Str (keyF 0), .agg [I 0, .sl 1 [Str ⟨#[120]⟩, Str (recF lB 2), Str (recF lB 1)]], I 3, .sl 1 [I 0, I 1, I 2]] (.tup [PTP exP, I 0]) := by
  have := JiW (keyF 0) exR 3 [0, 1, 2] (by decide) (by decide) (fun n i => by simp only [L0h, L1Y, or_false] at i; rcases i with rfl | rfl | rfl <;> exact ⟨by decide, by decide⟩)
  rw [shP] at this; exact this
 have t : Ev prog 32 [Str (keyF 0), .agg [I 0, .sl 1 [Str ⟨#[120]⟩, Str (recF lB 2), Str (recF lB 1)]], I 3, .sl 1 [I 1, I 2]] (.tup [PTP exQ, I 0]) := by
  have := JiW (keyF 0) exR 3 [1, 2] (by decide) (by decide) (fun n i => by simp only [L0h, L1Y, or_false] at i; rcases i with rfl | rfl <;> exact ⟨by decide, by decide⟩)
  rw [shQ] at this; exact this
 have u : Ev prog 30 [CKP oneC, CKP twoC, .agg [I 1, I 2, I 10, I 70, I 520, I 570], Str (keyF 0), PTP exP] (.tup [.agg [I 1024, I 1070], I 2, I 0]) := by
  have := Je2 oneC twoC lB (keyF 0) exP lgB Jjt c d
  rw [evP, bw1] at this; exact this
 have w : Ev prog 30 [CKP oneC, CKP twoC, .agg [I 1, I 2, I 10, I 70, I 520, I 570], Str (keyF 0), PTP exQ] (.tup [.agg [I 0, I 0], I 0, I 0]) := by
  have := Je2 oneC twoC lB (keyF 0) exQ lgB Joo c d
  rw [evQ, bw2] at this; exact this
 have y : Ev prog 30 [CKP oneC, CKP twoC, .agg [I 1, I 2, I 10, I 70, I 510, I 570], Str (keyF 0), PTP exQ] (.tup [.agg [I 1010, I 1070], I 0, I 0]) := by
  have := Je2 oneC twoC lA (keyF 0) exQ lgA Joo c d
  rw [evQ, bw3] at this; exact this
 have j := fun a b => Jqh a b
 have z : Ev prog 21 [.agg [I 1010, I 1014, I 1070, I 1074]] (.agg [I 1014, I 1070]) := Jih ⟨(1010, 1014), (1070, 1074)⟩
 have S : Ev prog 19 [Str (keyF 0), PTP exP, Str (recF lB 1), Str (recF lB 2)] (I 2) := by
  have := Jcf (keyF 0) exP (recF lB 1) (recF lB 2) Jjt
  rw [evP, fi1] at this; exact this
 have T : Ev prog 19 [Str (keyF 0), PTP exP, Str (recF lB 2), Str (recF lB 1)] (I 1) := by
  have := Jcf (keyF 0) exP (recF lB 2) (recF lB 1) Jjt
  rw [evP, fi2] at this; exact this
 have U : Ev prog 19 [Str (keyF 0), PTP exQ, Str (recF lB 2), Str (recF lB 1)] (I 0) := by
  have := Jcf (keyF 0) exQ (recF lB 2) (recF lB 1) Joo
  rw [evQ, fi3] at this; exact this
 have V : Ev prog 19 [Str (keyF 0), PTP exP, Str ⟨#[120]⟩, Str (recF lB 1)] (I 1) := by
  have := Jcf (keyF 0) exP xS (recF lB 1) Jjt
  rw [evP, fi4] at this; exact this
 have W : Ev prog 19 [Str (keyF 0), PTP exP, Str (recF lB 1), Str ⟨#[121]⟩] (I 1) := by
  have := Jcf (keyF 0) exP (recF lB 1) yS Jjt
  rw [evP, fi5] at this; exact this
 have X := JlL 4 0 ⟨by decide, by decide⟩ ⟨by decide, by decide⟩
 have Y := JlL 0 4 ⟨by decide, by decide⟩ ⟨by decide, by decide⟩
 have m := JgG (exN [4, 0]) (Jon _ (fun n i => by simp only [L0h, L1Y, or_false] at i; rcases i with rfl | rfl <;> exact ⟨by decide, by decide⟩) (by decide))
 have o := JgG (exN [0, 4]) (Jon _ (fun n i => by simp only [L0h, L1Y, or_false] at i; rcases i with rfl | rfl <;> exact ⟨by decide, by decide⟩) (by decide))
 have Z := Jjj (Jav (exN [4, 0])) m (Ja7 _)
 have k4 : Ev prog 26 [TPP (Jav (exN [0, 4])), I 1] (.tup [I 2, I 0]) := by
  have := JgU (Jav (exN [0, 4])) o 1
  rw [payV, if_pos ⟨Ja7 _, by omega, by rw [Jgq]; omega⟩, show payF (Jav (exN [0, 4])) (1 : Int).toNat = 2 from JtO] at this
  exact this
 obtain ⟨A, C, D, E, F⟩ := Jq2; clear c d m o; generalize JbW (Jav (exN [4, 0])) = L at *; generalize Jav (exN [4, 0]) = t1 at *; generalize Jav (exN [0, 4]) = t2 at *; generalize exP = p at *; generalize exQ = q at *; generalize recF lB 1 = R1 at *; generalize recF lB 2 = R2 at *; generalize oneC = o1 at *; generalize twoC = o2 at *; generalize keyF 0 = G at *; obtain ⟨aa, ab⟩ := o1; obtain ⟨ac, ad⟩ := o2
 obtain ⟨⟨pc, pn, pr, ps⟩, pl⟩ := p
 obtain ⟨⟨qc, qn, qr, qs⟩, ql⟩ := q
 obtain ⟨s1, s2, s3, s4, s5, s6, ⟨⟨s7, s8, s9, ae⟩, af⟩, ag, ah⟩ := t1
 obtain ⟨u1, u2, u3, u4, u5, u6, ⟨⟨u7, u8, u9, ai⟩, aj⟩, ak, al⟩ := t2
 refine EW [4, 5, 6, 7, 14, 15, 16] func12 ?_
 simp -implicitDefEqProofs (disch := omega) only [go_sem, ntmps12]
 refine Jb2 Plain.mono ?_
 simp -implicitDefEqProofs (disch := omega) only [go_sem, false_and, and_self]
 refine Jaa l ?_ (h4 := by first | exact .inl rfl | exact .inr (JcH _))
 simp -implicitDefEqProofs (disch := omega) only [go_sem, false_and, and_self]
 refine Jaa H ?_
 simp -implicitDefEqProofs (disch := omega) only [go_sem, false_and, and_self]
 refine Jb2 Plain.mono ?_
 simp -implicitDefEqProofs (disch := omega) only [go_sem, false_and, and_self]
 refine Jaa f ?_ (h4 := by first | exact .inl rfl | exact .inr (JcH _))
 simp -implicitDefEqProofs (disch := omega) only [go_sem, false_and, and_self]
 refine Jaa J ?_
 simp -implicitDefEqProofs (disch := omega) only [go_sem, false_and, and_self]
 refine Jb2 Plain.mono ?_
 simp -implicitDefEqProofs (disch := omega) only [go_sem, false_and, and_self]
 refine Jaa l ?_ (h4 := by first | exact .inl rfl | exact .inr (JcH _))
 simp -implicitDefEqProofs (disch := omega) only [go_sem, false_and, and_self]
 refine Jaa f ?_ (h4 := by first | exact .inl rfl | exact .inr (JcH _))
 simp -implicitDefEqProofs (disch := omega) only [go_sem, false_and, and_self]
 refine Jaa K ?_
 simp -implicitDefEqProofs (disch := omega) only [go_sem, false_and, and_self]
 refine Jb2 Plain.mono ?_
 simp -implicitDefEqProofs (disch := omega) only [go_sem, false_and, and_self]
 refine Jaa l ?_ (h4 := by first | exact .inl rfl | exact .inr (JcH _))
 simp -implicitDefEqProofs (disch := omega) only [go_sem, false_and, and_self]
 refine Jaa f ?_ (h4 := by first | exact .inl rfl | exact .inr (JcH _))
 simp -implicitDefEqProofs (disch := omega) only [go_sem, false_and, and_self]
 refine Jaa M ?_
 simp -implicitDefEqProofs (disch := omega) only [go_sem, false_and, and_self]
 refine Jaa N ?_
 simp -implicitDefEqProofs (disch := omega) only [go_sem, false_and, and_self]
 refine Jaa O ?_
 simp -implicitDefEqProofs (disch := omega) only [go_sem, false_and, and_self]
 refine Jaa P ?_
 simp -implicitDefEqProofs (disch := omega) only [go_sem, false_and, and_self]
 refine Jaa R ?_
 simp -implicitDefEqProofs (disch := omega) only [go_sem, false_and, and_self]
 refine Jap rfl ?_
 refine Ja0 [27264512, 27264544] ?_
 simp -implicitDefEqProofs (disch := omega) only [go_sem, false_and, and_self]
 refine Jaa s ?_
 simp -implicitDefEqProofs (disch := omega) only [go_sem, false_and, and_self]
 refine Jap rfl ?_
 refine Ja0 [27264672, 27264704] ?_
 simp -implicitDefEqProofs (disch := omega) only [go_sem, false_and, and_self]
 refine Jaa t ?_
 simp -implicitDefEqProofs (disch := omega) only [go_sem, false_and, and_self]
 refine Jb2 Plain.mono ?_
 simp -implicitDefEqProofs (disch := omega) only [go_sem, false_and, and_self]
 refine Jaa l ?_ (h4 := by first | exact .inl rfl | exact .inr (JcH _))
 simp -implicitDefEqProofs (disch := omega) only [go_sem, false_and, and_self]
 refine Jaa f ?_ (h4 := by first | exact .inl rfl | exact .inr (JcH _))
 simp -implicitDefEqProofs (disch := omega) only [go_sem, false_and, and_self]
 refine Jaa u ?_
 simp -implicitDefEqProofs (disch := omega) only [go_sem, false_and, and_self]
 refine Jb2 Plain.mono ?_
 simp -implicitDefEqProofs (disch := omega) only [go_sem, false_and, and_self]
 refine Jaa l ?_ (h4 := by first | exact .inl rfl | exact .inr (JcH _))
 simp -implicitDefEqProofs (disch := omega) only [go_sem, false_and, and_self]
 refine Jaa f ?_ (h4 := by first | exact .inl rfl | exact .inr (JcH _))
 simp -implicitDefEqProofs (disch := omega) only [go_sem, false_and, and_self]
 refine Jaa w ?_
 simp -implicitDefEqProofs (disch := omega) only [go_sem, false_and, and_self]
 refine Jb2 Plain.mono ?_
 simp -implicitDefEqProofs (disch := omega) only [go_sem, false_and, and_self]
 refine Jaa l ?_ (h4 := by first | exact .inl rfl | exact .inr (JcH _))
 simp -implicitDefEqProofs (disch := omega) only [go_sem, false_and, and_self]
 refine Jaa f ?_ (h4 := by first | exact .inl rfl | exact .inr (JcH _))
 simp -implicitDefEqProofs (disch := omega) only [go_sem, false_and, and_self]
 refine Jaa y ?_
 simp -implicitDefEqProofs (disch := omega) only [go_sem, false_and, and_self]
 refine Jaa Q ?_
 simp -implicitDefEqProofs (disch := omega) only [go_sem, false_and, and_self]
 refine Jaa (j _ _) ?_
 simp -implicitDefEqProofs (disch := omega) only [go_sem, false_and, and_self]
 refine Jaa (j _ _) ?_
 simp -implicitDefEqProofs (disch := omega) only [go_sem, false_and, and_self]
 refine Jaa (j _ _) ?_
 simp -implicitDefEqProofs (disch := omega) only [go_sem, false_and, and_self]
 refine Jaa (j _ _) ?_
 simp -implicitDefEqProofs (disch := omega) only [go_sem, false_and, and_self]
 refine Jaa z ?_
 simp -implicitDefEqProofs (disch := omega) only [go_sem, false_and, and_self]
 refine Jaa S ?_
 simp -implicitDefEqProofs (disch := omega) only [go_sem, false_and, and_self]
 refine Jaa T ?_
 simp -implicitDefEqProofs (disch := omega) only [go_sem, false_and, and_self]
 refine Jaa U ?_
 simp -implicitDefEqProofs (disch := omega) only [go_sem, false_and, and_self]
 refine Jaa V ?_
 simp -implicitDefEqProofs (disch := omega) only [go_sem, false_and, and_self]
 refine Jaa W ?_
 simp -implicitDefEqProofs (disch := omega) only [go_sem, false_and, and_self]
 refine Jap rfl ?_
 refine Ja0 [27267504, 27267520, 27267536] ?_
 simp -implicitDefEqProofs (disch := omega) only [go_sem, false_and, and_self]
 refine Jaa X ?_
 simp -implicitDefEqProofs (disch := omega) only [go_sem, false_and, and_self]
 refine Jap rfl ?_
 refine Ja0 [27267632, 27267648, 27267664] ?_
 simp -implicitDefEqProofs (disch := omega) only [go_sem, false_and, and_self]
 refine Jaa Y ?_
 simp -implicitDefEqProofs (disch := omega) only [go_sem, false_and, and_self]
 refine Jaa Z ?_
 simp -implicitDefEqProofs (disch := omega) only [go_sem, false_and, and_self]
 refine Jaa k4 ?_
 simp -implicitDefEqProofs (disch := omega) only [go_sem, A, C, D, E, F, beq_self_eq_true]
 refine Jab (fun h => absurd rfl h) (fun _ => ?_)
 simp -implicitDefEqProofs (disch := omega) only [go_sem, A, C, D, E, F, beq_self_eq_true, results12]; try simp
end Go.Proofs.YtnpbhgeffapojaaGreatDoor
namespace Go.Vai
open Go.RowKit
def JiZ (xs : List Nat) (S : Sp) (ops : Array Oper) (J : (Nat -> Bool) -> Env -> Jac -> Prop) : Nat -> List Oper -> Prop
 | _, [] => True
 | i, o :: l => (xs.contains i = false -> ∀ D, D i = false -> (∀ e ∈ o.after.toList, Region.binds .any e = true -> D e.on = true) -> ∀ E b, J D E b -> opsC S false ops i [o] (J (insJ D i)) E b) /\ JiZ xs S ops J (i + 1) l
theorem Jh2 {xs : List Nat} {S : Sp} {ops : Array Oper} {J : (Nat -> Bool) -> Env -> Jac -> Prop} : ∀ {l : List Oper} {n i : Nat} {o : Oper}, JiZ xs S ops J n l -> l[i]? = some o -> xs.contains (n + i) = false ->
 ∀ D, D (n + i) = false -> (∀ e ∈ o.after.toList, Region.binds .any e = true -> D e.on = true) -> ∀ E σ, J D E σ -> gopC S true true ops.toList o (J (insJ D (n + i))) (J (insJ D (n + i))) E σ
 | [], _, _, _, _, h, _ => by simp at h
 | d :: l, n, i, o, b, h, c => by
  cases i with
  | zero => simp at h; subst h; exact b.1 c
  | succ i =>
   have := Jh2 b.2 (by simpa using h) (by rw [show n + 1 + i = n + (i + 1) from by omega]; exact c)
   rwa [show n + 1 + i = n + (i + 1) from by omega] at this
theorem JpD {S : Sp} (hY : JcC S) {id : Nat} {ops : Array Oper} {Q : Exit -> Env -> Jac -> Prop} {E : Env} {σ : Jac} (J : (Nat -> Bool) -> Env -> Jac -> Prop)
 (xs : List Nat) (h0 : J (fun _ => false) E σ) (hsteps : JiZ xs S ops J 0 ops.toList)
 (hx : ∀ x o, xs.contains x = true -> ops[x]? = some o -> o.guard = none /\ ∀ D, D x = false -> (∀ e ∈ o.after.toList, Region.binds .any e = true -> D e.on = true) -> ∀ E σ, J D E σ -> semV S o (J (insJ D x)) E σ) (hend : ∀ D E σ, (∀ i, i < ops.size -> D i = true) -> J D E σ -> Q .normal E σ)
 (hfit : ops.toList.all (Oper.fits S.P S.N) = true := by kernel_rfl) (hedge : Jew 0 ops.toList = true := by kernel_rfl) : semC S (.region id ops true) Q E σ := by
 intro C H n R hR a w hs
 have hall : ∀ (i : Nat) (o : Oper), ops[i]? = some o -> Oper.fits S.P S.N o = true := fun i o ho => L0b.1 hfit o (L0s.2 (L1x ho))
 have hlist : ∀ (i : Nat) (o : Oper), ops[i]? = some o -> ops.toList[i]? = some o := fun i o ho => by rw [L0t]; exact ho
 refine wpIn_region_any H.mo ?_
 have key : ∀ (fuel : Nat) (listed : Array Bool) (E : Env) (σ : Jac) (a : Act) (w : World), listed.size = ops.size -> (rem ops listed).length <= fuel ->
  J (fun i => listed.getD i false) E σ -> St C E σ a w -> wpAnyIn (FW C.rdl) n S.P .any ops R fuel listed a w := by
  intro fuel
  have full : ∀ (listed : Array Bool), listed.size = ops.size -> rem ops listed = [] -> ∀ i, i < ops.size -> listed.getD i false = true := fun listed hsz hr i hi => by
   cases hl : listed.getD i false with
   | true => rfl
   | false =>
    have : i ∈ rem ops listed := JaM.2 ⟨hi, by
     simp only [L0B] at hl ⊢
     rw [L0e (by omega)] at hl ⊢; exact hl⟩
    rw [hr] at this; simp at this
  induction fuel with
  | zero =>
   intro listed E σ a w hsz hle hv hs
   have h0 : rem ops listed = [] := L0L (by omega)
   refine ⟨?_, hR _ _ _ _ _ (hend _ _ _ (full listed hsz h0) hv) hs⟩
   cases hr : Region.ready .any ops listed with
   | nil => rfl
   | cons i l =>
    have hi : i ∈ Region.ready .any ops listed := by rw [hr]; simp
    obtain ⟨h1, o, ho, _⟩ := mem_ready.1 hi
    have : i ∈ rem ops listed := JaM.2 ⟨(L0i.1 ho).1, h1⟩
    rw [h0] at this; simp at this
  | succ fuel ih =>
   intro listed E σ a w hsz hle hv hs
   have getD_same : ∀ i, i < ops.size -> listed.getD i true = listed.getD i false := fun i hi => by
    simp only [L0B]; rw [L0e (by omega)]; rfl
   refine ⟨fun hr0 => ?_, fun i hi => ?_⟩
   . have hr : rem ops listed = [] := by
      cases hr : rem ops listed with
      | nil => rfl
      | cons i l =>
       exfalso
       have hm : i ∈ rem ops listed := by rw [hr]; simp
       obtain ⟨hlt, hun⟩ := JaM.1 hm
       have : i ∈ Region.ready .any ops listed := mem_ready.2 ⟨hun, _, L0e hlt, fun e he hb => by
        have hei := Jex hedge (hlist i _ (L0e hlt)) e he hb
        cases hl : listed.getD e.on false with
        | true => rfl
        | false =>
         have hme : e.on ∈ rem ops listed := JaM.2 ⟨by omega, by rw [getD_same _ (by omega)]; exact hl⟩
         have hsort := JbQ (ops := ops) listed
         rw [hr] at hme hsort
         rcases L0h.1 hme with h | h
         . omega
         . have := (L1b.1 hsort).1 _ h; omega⟩
       rw [hr0] at this; simp at this
     exact hR _ _ _ _ _ (hend _ _ _ (full listed hsz hr) hv) hs
   . obtain ⟨hun, o, ho, hedges⟩ := mem_ready.1 hi
     have hlt : i < ops.size := (L0i.1 ho).1
     have hm : i ∈ rem ops listed := JaM.2 ⟨hlt, hun⟩
     obtain ⟨pre, post, hsplit⟩ := L1R hm
     have hset := JgZ hsz hsplit
     have hD : (fun k => (listed.setIfInBounds i true).getD k false) = insJ (fun k => listed.getD k false) i := by
      funext k
      simp only [insJ, L0B]
      by_cases hk : k = i
      . subst hk; simp [hsz, hlt]
      . rw [L15 (Ne.symm hk)]; simp [hk]
     have next : ∀ E' σ' a' w', J (insJ (fun k => listed.getD k false) i) E' σ' -> St C E' σ' a' w' -> wpAnyIn (FW C.rdl) n S.P .any ops R fuel (listed.setIfInBounds i true) a' w' := fun E' σ' a' w' h1 h3 => by
      refine ih (listed.setIfInBounds i true) E' σ' a' w' (by simpa using hsz) ?_ (by rw [hD]; exact h1) h3
      rw [hset]; rw [hsplit] at hle; simp at hle ⊢; omega
     by_cases hix : xs.contains i = true
     . obtain ⟨hgn, hs1⟩ := hx i o hix ho
       have hs2 := hs1 (fun k => listed.getD k false) (by rw [<- getD_same i hlt]; exact hun) (fun e he hb => hedges e (L0s.1 he) hb) E σ hv
       refine Jcp ho ?_
       unfold JfO
       rw [if_pos (by simp [Region.wanted, hgn])]
       exact hs2 C H n a w _ _ hs fun E' σ' a' w' h1 h2 => next E' σ' a' w' h1 h2
     have hstep := Jh2 hsteps (hlist i o ho) (by rw [L0n]; simpa using hix) (fun k => listed.getD k false) (by rw [L0n, <- getD_same i hlt]; exact hun) (fun e he hb => hedges e (L0s.1 he) hb) E σ hv
     rw [L0n] at hstep
     have hg := JkR hY (K' := J (insJ (fun k => listed.getD k false) i)) (Kb' := J (insJ (fun k => listed.getD k false) i)) (fun _ _ h => h) (fun _ _ h => h) hstep
     obtain ⟨ρ, Im, M, hw⟩ := hs
     exact Jcp ho (Jdn (Kc := wpAnyIn (FW C.rdl) n S.P .any ops R fuel (listed.setIfInBounds i true)) H hw hall (hall i o ho) true true (fun h => by cases h) hg (fun E' σ' a' w' h1 h2 => next E' σ' a' w' h1 h2) fun E' σ' a' w' h1 h2 => next E' σ' a' w' h1 h2)
 exact key ops.size _ E σ a _ (by simp) (by unfold rem; exact L0r (L1S _ _) (by simp)) (by
  have : (fun i => (Array.replicate ops.size false).getD i false) = fun _ => false := by
   funext i; simp only [L0B, L1D]; split <;> rfl
  rw [this]; exact h0) (hs.drew H.G (w.drawn + 1))
def Ji0 (xs : List Nat) (S : Sp) (ops : Array Oper) (J : (Nat -> Bool) -> Env -> Jac -> Prop) : Nat -> List Oper -> Prop
 | _, [] => True
 | i, o :: l => (xs.contains i = false -> ∀ D E b, J D E b -> D i = false /\ depK D o.after.toList -> opsC S false ops i [o] (J (insJ D i)) E b) /\ Ji0 xs S ops J (i + 1) l
theorem Jh3 {xs : List Nat} {S : Sp} {ops : Array Oper} {J : (Nat -> Bool) -> Env -> Jac -> Prop} : ∀ {l : List Oper} {i : Nat}, Ji0 xs S ops J i l -> JiZ xs S ops J i l
 | [], _, _ => trivial
 | _ :: _, _, ⟨b, c⟩ => ⟨fun h D d g E j f => b h D E j f ⟨d, Jil g⟩, Jh3 c⟩
theorem JpE {S : Sp} [hY : Plain S] {id : Nat} {ops : Array Oper} {Q : Exit -> Env -> Jac -> Prop} {E : Env} {σ : Jac} (J : (Nat -> Bool) -> Env -> Jac -> Prop) (xs : List Nat)
 (k : J (fun _ => false) E σ) (b : Ji0 xs S ops J 0 ops.toList)
 (j : ∀ x o, xs.contains x = true -> ops[x]? = some o -> o.guard = none /\ ∀ D E σ, J D E σ -> D x = false /\ depK D o.after.toList -> semD S o.dst o.op o.type (J (insJ D x)) E σ)
 (d : ∀ D E σ, (∀ i, i < ops.size -> D i = true) -> J D E σ -> Q .normal E σ)
 (f : ops.toList.all (Oper.fits S.P S.N) = true := by kernel_rfl) (c : Jew 0 ops.toList = true := by kernel_rfl) : semC S (.region id ops true) Q E σ :=
 JpD hY.mono J xs k (Jh3 b) (fun x o g h => ⟨(j x o g h).1, fun D l p E σ m => ((j x o g h).2 D E σ m ⟨l, Jil p⟩) o.pos o.after o.guard⟩) d f c
end Go.Vai
set_option maxRecDepth 100000
namespace Go.Proofs.YtnpbhgeffapojaaGreatDoor
open Go.Proofs.Tryz
open Go.Vai Go Go.Proofs
@[go_sem] theorem Jw4 (l : List T3) (a b c : Int) : l.map QT ++ [.agg [.v (.int .i64 a), .v (.int .i64 b), .v (.int .i64 c)]] = (l ++ [(a, b, c)]).map QT := by simp
end Go.Proofs.YtnpbhgeffapojaaGreatDoor
set_option maxRecDepth 100000
namespace Go.Vai
open Go.RowKit Go.ChangeShapes Go.WideShapes
theorem Jo2 {H : Type} {enc : TypeId × Value -> H} {C : Checked} {os : Os} {f : FuncId} {m : Func} {s : ChangeSpec} {g : List PathCond} {u h : Bool} {tb : TypeId} {ps : List (AV -> Prop)} {X : World -> Array Value -> Prop}
 (Z : ∀ (w w' : World) (args : Array Value), w.heap = w'.heap -> X w args -> X w' args)
 (own : ownKnob C.prog.godebug = none) (k : os.Started) (o : C.prog.inits.idxOf? f = none) (I : C.prog.funcs[f]? = some m)
 (l : ∃ (w : World) (c : Tape) (i : Input), w.os = os /\ (w.forCall c i).Shaped C.prog /\ i.vars = [] /\ Input.okWide C.prog (w.forCall c i) .any w.heap.size f i /\
  ((s.pre enc C.prog m g false (w.forCall c i).memory i.args /\ X (w.forCall c i).memory i.args) /\ sizedMet enc C.prog m (OpenSpec.ofChange s) false (w.forCall c i).memory i.args) /\ ({} : Assume).holds C.prog (lone (Frame.enter C.prog f i.args .normal) [] (w.forCall c i)))
 (hl : laidOutB C.prog = true) (hr : (m.params.toList.all fun t => C.prog.readableRec t && decide (t < C.prog.types.size)) = true) (N : m.resultTypes = #[tb]) (O : C.prog.underlying tb = some .bool) (z : s.vars = [])
 (hs : ∀ E : List (DataW H), E.length = m.params.size -> s.fn H E = { results := [.lit (.bool true)], args := E })
 (M : ∀ w : World, Jep C.prog enc w m.params.toList ps) (G : ∀ d, AllP ps d -> Ev C.prog f d (.v (.bool true))) (K : ∀ (w : World) (args : Array Value), X w args -> GOK w (Here w)) :
 ReturnsInHanded {} C os f .any (fun w args => (s.pre enc C.prog m g false w args /\ X w args) /\ sizedMet enc C.prog m (OpenSpec.ofChange s) false w args) (s.post enc C.prog m false u h false) := by
 refine returnsInHanded_of_change_and (C := C) (X := X) Z own k o I l ?_
 intro W P args E gs D B Y _ _ T _
 obtain ⟨p, q, R, V, e, J, L⟩ := Y
 obtain ⟨d, F, A⟩ := JhM (M W) R (fun j t v hj hv => B j t v (by simpa using hj) (by simpa using hv))
 have := (G d F d _ ⟨rfl, rfl⟩).2 W (Here W) args.toList (fun b hb => hb) (K W args T) A
 refine (this.mono ?_)
 rintro e' W' ⟨y, rfl, hx, S, _, _, U⟩
 obtain ⟨ob, Q, _⟩ := U
 have hy : y = .bool true := by
  unfold R1 at Q
  cases Q.2 with | v => rfl
 subst hy
 exact ⟨_, rfl, Jpu hl (fun t ht => by simpa using L0b.1 hr t ht) N O z hs ⟨p, q, R, V, e, J, L⟩ hx⟩
end Go.Vai
namespace Go.Proofs.YtnpbhgeffapojaaGreatDoor
open Go.Proofs.Tryz
open Go.Vai Go Go.Proofs Go.RowKit
theorem own3 : ownKnob Tryz.checked.prog.godebug = none := by kernel_rfl
theorem JlZ : laidOutB Tryz.checked.prog = true := by kernel_rfl
abbrev JiF : List (String × DataW Unit) := [("dialtone/digest.round", Rows.laid_dialtone_digest_round)]
theorem JxH : prog.globalNamed "dialtone/digest.round" = some 0 := by kernel_rfl
def JhW : List Int := (gtab.headD (0, [])).2.map fun v => match v with | .int _ n => n | _ => 0
theorem JtU : gtab = [(0, JhW.map (Value.int .u32))] := by kernel_rfl
theorem Jud : (Rows.laid_dialtone_digest_round : DataW Unit) = .agg (JhW.map fun n => .lit (.int .u32 n)) := by kernel_rfl
theorem Jlh {W : World} (h : laidMetH prog JiF W) : ∀ (i : Nat) (v : Value), (JhW.map (Value.int .u32))[i]? = some v -> W.cell? ⟨0, i, none⟩ = some v := by
 rw [MakeChecks.laidMetH_plain _ _ _ (by kernel_rfl)] at h
 obtain ⟨M, ⟨I, z, c, H, L, N, d, p, q, l, _, _⟩, _, _⟩ := h
 obtain rfl := Option.some.inj (JxH.symm.trans d)
 have G : (prog.globals[0]?).map (·.type) = some z := p
 intro i v f
 rw [World.var?_cell d q i]
 have t : z = 296 := by
  have : (prog.globals[0]?).map (·.type) = some 296 := by kernel_rfl
  exact Option.some.inj (G.symm.trans this)
 subst t
 obtain ⟨A, K, rfl, g, y, J, m⟩ := DataW.trod_array (n := 64) (e := 273) (by kernel_rfl) l
 have B : prog.cellsOf 273 = 1 := by kernel_rfl
 simp only [Prod.mk.injEq] at g; have s := g.1; rw [Jud] at s; simp only [DataW.agg.injEq] at s
 have o : JhW.length = 64 := by kernel_rfl
 have E : i < 64 := by
  have := (L05.1 f).1
  rw [L04, o] at this; exact this
 have j := m i E; rw [B, L0X] at j
 cases hxi : A[i]? with
 | none => rw [L1y] at hxi; omega
 | some x =>
  rw [hxi] at j
  obtain ⟨n, C, D, _⟩ := DataW.trod_int (k := .u32) (by kernel_rfl) j
  have u : (A.map (·.1))[i]? = some x.1 := by rw [L02, hxi]; rfl
  rw [<- s, L02] at u
  obtain ⟨r, F, b⟩ := L0j.1 u
  rw [L02, F] at f; have f := Option.some.inj f; rw [D] at b; simp only [DataW.lit.injEq, Lit.int.injEq, true_and] at b
  have w : (c.toList.drop i)[0]? = some (.int .u32 n) := by
   have : ((c.toList.drop i).take 1)[0]? = some (.int .u32 n) := by rw [C]; rfl
   rwa [L0l, if_pos (by omega)] at this
  rw [L0E, L0U] at w; rw [<- L0t, w, <- f, b]
theorem gok {W : World} (h : laidMetH prog JiF W) : GOK W (Here W) := by
 intro p d
 rw [JtU, L0p] at d; subst d; have c := Jlh h
 refine ⟨?_, fun i v f => ⟨c i v f, ?_⟩⟩
 . have g : (JhW.map (Value.int .u32))[0]? = some (.int .u32 (gd JhW 0)) := by kernel_rfl
   have := c 0 _ g
   show 0 < W.heap.size
   rcases Nat.eq_zero_or_pos W.heap.size with b | b
   . have : W.heap[0]? = none := Array.getElem?_eq_none (by omega)
     simp [World.cell?, this] at *
   . exact b
 . obtain ⟨r, _, rfl⟩ := L08.1 (L01 f)
   rfl
theorem JlJ (os : Os) (args : Array Value) : laidMetH prog JiF ((World.doorLaid prog 14 os).forCall (fun _ _ => 0) ⟨#[], args, []⟩).memory :=
 laidMetH_of_parts3 (fuel := 8) (laidMet_of_run' 8 (by kernel_rfl) (by kernel_rfl)) (by kernel_rfl) (by kernel_rfl)
section
variable {H : Type} {enc : TypeId × Value -> H} {w : World}
def OI (a : AV) : Prop := ∃ n, R64 n /\ a = I n
theorem wf64 {n : Int} : (Lit.int .i64 n).wf = true ↔ R64 n := by
 have b : IntKind.i64.min = -9223372036854775808 := by decide
 have c : IntKind.i64.max = 9223372036854775807 := by decide
 simp [Lit.wf, R64, b, c]
theorem JfR {t : TypeId} (b : prog.underlying t = some (.int .i64)) : Jb4 prog enc w t OI :=
 (Jpk b).mono (fun a ⟨n, h, e⟩ => ⟨n, wf64.1 h, e⟩) fun a ⟨n, h, e⟩ => ⟨n, wf64.2 h, e⟩
def OSL (a : AV) : Prop := ∃ l : List Int, l.length <= 9223372036854775807 /\ (∀ x ∈ l, R64 x) /\ a = SL l
theorem JfE : Jb4 prog enc w 25 OSL :=
 (Jck (T := Int) (q := R64) (f := I) (e := 3) (sz := 1) (by kernel_rfl) (by kernel_rfl) (by decide) ((JfR (by kernel_rfl)).mono (fun a ⟨n, h, e⟩ => ⟨n, h, e⟩) fun a ⟨n, h, e⟩ => ⟨n, h, e⟩)).mono
  (fun a ⟨l, h, h1, e⟩ => ⟨l, h, h1, e⟩) fun a ⟨l, h, h1, e⟩ => ⟨l, h, h1, e⟩
def OT (a : AV) : Prop := ∃ x y z : Int, R64 x /\ R64 y /\ R64 z /\ a = .agg [I x, I y, I z]
theorem Juw : Jb4 prog enc w 29 OT :=
 (Jee (T := Int) (q := R64) (f := I) (e := 3) (n := 3) (sz := 1) (by kernel_rfl) (by kernel_rfl) (by kernel_rfl) (JfR (by kernel_rfl))).mono
  (fun a ⟨l, h, h1, e⟩ => by
   match l, h with
   | [x, y, z], _ => exact ⟨x, y, z, h1 x (by simp), h1 y (by simp), h1 z (by simp), e⟩)
  fun a ⟨x, y, z, h1, h2, h3, e⟩ => ⟨[x, y, z], rfl, by simp [h1, h2, h3], e⟩
def OT1 (a : AV) : Prop := ∃ q : T3, T3ok q /\ a = QT q
theorem Jrt : Jb4 prog enc w 29 OT1 :=
 Juw.mono (fun a ⟨x, y, z, h1, h2, h3, e⟩ => ⟨(x, y, z), ⟨h1, h2, h3⟩, e⟩) fun a ⟨q, h, e⟩ => ⟨q.1, q.2.1, q.2.2, h.1, h.2.1, h.2.2, e⟩
def OTS (a : AV) : Prop := ∃ l : List T3, l.length <= 9223372036854775807 /\ (∀ x ∈ l, T3ok x) /\ a = QTS l
theorem Jl9 : Jb4 prog enc w 23 OTS :=
 (Jck (T := T3) (q := T3ok) (f := QT) (e := 29) (sz := 3) (by kernel_rfl) (by kernel_rfl) (by decide) Jrt).mono
  (fun a ⟨l, h, h1, e⟩ => ⟨l, h, h1, e⟩) fun a ⟨l, h, h1, e⟩ => ⟨l, h, h1, e⟩
def OC (a : AV) : Prop := ∃ y : Cr, y.ok /\ a = CRP y
theorem Jrs : Jb4 prog enc w 35 OC :=
 (JfG (ps := [OI, OI, OSL, OTS]) (Tryz.underlying35) ⟨JfR (by kernel_rfl), JfR (by kernel_rfl), JfE, Jl9, trivial⟩ (by kernel_rfl) (by kernel_rfl)).mono
  (fun a h => by
   obtain ⟨g, i, rfl⟩ := h
   revert i
   exact JwM (Q := fun l => OC (AV.agg (l.flatMap AV.cells))) (fun a b c d ⟨f, h1, e1⟩ ⟨m, h2, e2⟩ ⟨k, h3, h4, e3⟩ ⟨q, h5, h6, e4⟩ => ⟨⟨f, m, k, q⟩, ⟨h1, h2, h4, h3, h6, h5⟩, by subst e1; subst e2; subst e3; subst e4; rfl⟩) g)
  fun a ⟨u, h, e⟩ => ⟨[I u.d, I u.s, SL u.r, QTS u.at_], ⟨⟨u.d, h.1, rfl⟩, ⟨u.s, h.2.1, rfl⟩, ⟨u.r, h.2.2.2.1, h.2.2.1, rfl⟩, ⟨u.at_, h.2.2.2.2.2, h.2.2.2.2.1, rfl⟩, trivial⟩, e⟩
end
section
variable {H : Type} {enc : TypeId × Value -> H} {w : World}
def OP (a : AV) : Prop := ∃ x y : Int, R64 x /\ R64 y /\ a = .agg [I x, I y]
theorem Jph : Jb4 prog enc w 104 OP :=
 (Jee (T := Int) (q := R64) (f := I) (e := 3) (n := 2) (sz := 1) (by kernel_rfl) (by kernel_rfl) (by kernel_rfl) (JfR (by kernel_rfl))).mono
  (fun a ⟨l, h, h1, e⟩ => by
   match l, h with
   | [x, y], _ => exact ⟨x, y, h1 x (by simp), h1 y (by simp), e⟩)
  fun a ⟨x, y, h1, h2, e⟩ => ⟨[x, y], rfl, by simp [h1, h2], e⟩
def OP1 (a : AV) : Prop := ∃ q : Int × Int, (R64 q.1 /\ R64 q.2) /\ a = HPP q
theorem Juu : Jb4 prog enc w 104 OP1 :=
 Jph.mono (fun a ⟨x, y, h1, h2, e⟩ => ⟨(x, y), ⟨h1, h2⟩, e⟩) fun a ⟨q, h, e⟩ => ⟨q.1, q.2, h.1, h.2, e⟩
def OPS (a : AV) : Prop := ∃ l : List (Int × Int), l.length <= 9223372036854775807 /\ (∀ x ∈ l, R64 x.1 /\ R64 x.2) /\ a = HPS l
theorem Juv : Jb4 prog enc w 22 OPS :=
 (Jck (T := Int × Int) (q := fun x => R64 x.1 /\ R64 x.2) (f := HPP) (e := 104) (sz := 2) (by kernel_rfl) (by kernel_rfl) (by decide) Juu).mono
  (fun a ⟨l, h, h1, e⟩ => ⟨l, h, h1, e⟩) fun a ⟨l, h, h1, e⟩ => ⟨l, h, h1, e⟩
def OQ1 (a : AV) : Prop := ∃ x : Q4, Q4ok x /\ a = QP x
theorem Jyb : Jb4 prog enc w 157 OQ1 :=
 (Jee (T := Int) (q := R64) (f := I) (e := 3) (n := 4) (sz := 1) (by kernel_rfl) (by kernel_rfl) (by kernel_rfl) (JfR (by kernel_rfl))).mono
  (fun a ⟨l, h, g, e⟩ => by
   match l, h with
   | [x, y, z, u], _ => exact ⟨⟨x, y, z, u⟩, ⟨g x (by simp), g y (by simp), g z (by simp), g u (by simp)⟩, e⟩)
  fun a ⟨x, h, e⟩ => ⟨[x.a, x.b, x.c, x.d], rfl, by obtain ⟨g, i, j, k⟩ := h; simp [g, i, j, k], e⟩
def OQ (a : AV) : Prop := ∃ l : List Q4, l.length <= 9223372036854775807 /\ (∀ x ∈ l, Q4ok x) /\ a = QL l
theorem Jut : Jb4 prog enc w 26 OQ :=
 (Jck (T := Q4) (q := Q4ok) (f := QP) (e := 157) (sz := 4) (by kernel_rfl) (by kernel_rfl) (by decide) Jyb).mono
  (fun a ⟨l, h, h1, e⟩ => ⟨l, h, h1, e⟩) fun a ⟨l, h, h1, e⟩ => ⟨l, h, h1, e⟩
def OCS (a : AV) : Prop := ∃ l : List Cr, l.length <= 9223372036854775807 /\ (∀ x ∈ l, x.ok) /\ a = CRS l
theorem Jpf : Jb4 prog enc w 24 OCS :=
 (Jck (T := Cr) (q := Cr.ok) (f := CRP) (e := 35) (sz := 4) (by kernel_rfl) (by kernel_rfl) (by decide) Jrs).mono
  (fun a ⟨l, h, h1, e⟩ => ⟨l, h, h1, e⟩) fun a ⟨l, h, h1, e⟩ => ⟨l, h, h1, e⟩
def ON (a : AV) : Prop := ∃ x : Nm, x.ok /\ a = NMP x
theorem Jpg : Jb4 prog enc w 28 ON :=
 (JfG (ps := [OPS, OTS, OCS, OSL, OQ, OSL, OSL]) (Tryz.underlying28) ⟨Juv, Jl9, Jpf, JfE, Jut, JfE, JfE, trivial⟩ (by kernel_rfl) (by kernel_rfl)).mono
  (fun a h => by
   obtain ⟨i, j, rfl⟩ := h
   revert j
   exact JwO (Q := fun l => ON (AV.agg (l.flatMap AV.cells))) (fun a b c d e f g ⟨k, h1, i1, e1⟩ ⟨x2, h2, i2, e2⟩ ⟨x3, h3, i3, e3⟩ ⟨x4, h4, i4, e4⟩ ⟨x5, h5, i5, e5⟩ ⟨x6, h6, i6, e6⟩ ⟨x7, h7, i7, e7⟩ =>
    ⟨⟨k, x2, x3, x4, x5, x6, x7⟩, ⟨i1, h1, i2, h2, i3, h3, i4, h4, i5, h5, i6, h6, i7, h7⟩, by subst e1; subst e2; subst e3; subst e4; subst e5; subst e6; subst e7; rfl⟩) i)
  fun a ⟨u, h, e⟩ => ⟨[HPS u.hops, QTS u.legs, CRS u.crs, SL u.bases, QL u.rates, SL u.offs, SL u.wit], ⟨⟨_, h.hopsL, h.hops, rfl⟩, ⟨_, h.legsL, h.legs, rfl⟩, ⟨_, h.crsL, h.crs, rfl⟩, ⟨_, h.basesL, h.bases, rfl⟩, ⟨_, h.ratesL, h.rates, rfl⟩, ⟨_, h.offsL, h.offs, rfl⟩, ⟨_, h.witL, h.wit, rfl⟩, trivial⟩, e⟩
end
end Go.Proofs.YtnpbhgeffapojaaGreatDoor

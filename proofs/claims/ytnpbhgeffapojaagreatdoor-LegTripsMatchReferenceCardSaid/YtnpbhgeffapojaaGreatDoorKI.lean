/- Trips; the chapter's examples; the frame -/
import Derived.Test.YtnpbhgeffapojaaGreatDoorKH
import Derived.Test.YtnpbhgeffapojaaGreatDoorRows
import Derived.Test.YtnpbhgeffapojaaGreatDoorCards
import Derived.Test.YtnpbhgeffapojaaGreatDoorTie
import Derived.ProofKit
import Derived.LaidMore
import Derived.OpenShut
import Derived.Stop.Joined
import Derived.Handed
import Derived.Lay
set_option linter.all false
set_option maxRecDepth 100000
namespace Go.Proofs.YtnpbhgeffapojaaGreatDoor
open Go.Proofs.Tryz
open Go.Vai Go Go.Proofs
theorem Jg0 : ∀ (n : Nat) (l : List ByteArray) (i : Nat), l.length <= n -> (Jbf l i).length <= l.length
 | 0, l, i, c => by
  have b : Jbf l i = [] := Jbp JaP JaU empF (by omega) i
  rw [b]; exact L13 _
 | n + 1, l, i, c => by
  by_cases h : 2 <= l.length
  . have d := Jby (n := l.length) (by omega)
    have f := Ja7 l.length; rw [JdM h]
    split
    . have := Jg0 n (l.take (Jao l.length)) i (by rw [L02]; omega)
      rw [L02] at this
      rw [L0h]; omega
    . have := Jg0 n (l.drop (Jao l.length)) (i - Jao l.length) (by rw [L0f]; omega)
      rw [L0f] at this
      rw [L0h]; omega
  . have b : Jbf l i = [] := Jbp JaP JaU empF (by omega) i
    rw [b]; exact L13 _
theorem Jle {d : ByteArray} {r : Rg} {n : Int} {l : List Int} {p : Pt} (h : JeX d r n l = some p) (o : l.length <= 9223372036854775807) : PtOK p := by
 obtain ⟨_, k, f⟩ := JdC h
 unfold JeX at h
 split at h
 . rename_i m; obtain ⟨s, c, t, q⟩ := m; have c := Jcx.1 c
   have b : ∀ j : Nat, (gd r.l j).size <= 1000 := fun j => by
    by_cases hj : j < r.l.length
    . exact c.2.2 _ (Jan _ _ hj)
    . rw [JoD _ _ (by omega)]; exact L13 _
   refine ⟨?_, ?_, ?_⟩
   . rw [k]; simp only [Jfc]; rw [Jcc]; omega
   . rw [f, L06]; exact o
   . intro x g
     rw [f] at g
     obtain ⟨i, _, rfl⟩ := L08.1 g
     refine ⟨?_, ?_⟩
     . have := b i.toNat; simp only [JbS]; omega
     . have := Jg0 (r.l.take n.toNat).length (r.l.take n.toNat) i.toNat (L0a _)
       rw [L02] at this
       show (Jbf (r.l.take n.toNat) i.toNat).reverse.length <= _
       rw [L17]; omega
 . cases h
theorem Jlw (n : Nat) (i : Int) (hi : 0 <= i /\ i < n) : ∀ (l : List Int) (o : Option Int), (∀ q, o = some q -> q < i) -> (∀ q ∈ l, q < i) -> ascN n o l = true -> ascN n o (l ++ [i]) = true
 | [], o, d, _, _ => by
  rw [L1C, ascN, ascN, Bool.and_true, decide_eq_true_iff]; exact ⟨hi, d⟩
 | x :: l, o, d, c, h => by
  rw [ascN, L00] at h; rw [L0y, ascN, L00]
  exact ⟨h.1, Jlw n i hi l (some x) (fun q b => by cases b; exact c _ (by simp)) (fun q b => c q (L1y _ b)) h.2⟩
theorem Jlr (w : List Int) : ∀ i, ∀ q ∈ witN w i, 0 <= q /\ q < i
 | 0, q, h => by cases h
 | i + 1, q, h => by
  rw [witN] at h
  rcases L0w.1 h with h | h
  . have := Jlr w i q h; omega
  . split at h
    . obtain rfl := L0p.1 h; omega
    . cases h
theorem Jms (w : List Int) (n : Nat) : ∀ i, i <= n -> ascN n none (witN w i) = true
 | 0, _ => rfl
 | i + 1, h => by
  have ih := Jms w n i (by omega)
  rw [witN]
  split
  . exact Jlw n i (by omega) _ _ (fun q hq => by cases hq) (fun q hq => (Jlr w i q hq).2) ih
  . rw [L0J]; exact ih
theorem Jgb (w : List Int) : ∀ i, (witN w i).length <= i
 | 0 => L0a _
 | i + 1 => by
  have := Jgb w i
  rw [witN, L07]
  split <;> simp <;> omega
theorem Jpz (l : Lg) (e : Int) : (recF l e).size <= 60 := by
 unfold recF recN; simp only [L0V]; have c := JaQ 8; have d := JaQ l.f; have h := JaQ l.t; have i := JaQ e
 have j := JaQ (if e = 1 then l.g else l.k).b
 have m := JaQ (if e = 1 then l.g else l.k).e
 omega
theorem Jqb (n : Nat) (j : Nat) : (gd (upsN n) j).size <= 8 := by
 by_cases hj : j < (upsN n).length
 . have b := Jan (upsN n) j hj; generalize gd (upsN n) j = s at *
   obtain ⟨v, _, rfl⟩ := L08.1 b
   exact L0a _
 . rw [JoD _ _ (by omega)]; exact L13 _
theorem Jqg (n : Nat) (legs : List Lg) (w : Int) : (witE JaO (upsN n) legs w).size <= 1000 := by
 unfold witE
 split
 . have := Jqb n (Jaf (w.tdiv 3) (upsN n).length).toNat; omega
 . split
   . have := Jpz (gd legs (Jaf (w.tdiv 6) legs.length).toNat) (1 + Jaf (w.tdiv 3) 2); omega
   . exact L0u rfl
theorem JoW (c : Int) : keyS c = keyF c := rfl
theorem Ji0 (n : Nat) (legs : List Lg) (w : List Int) : JeX (keyS 0) (witR JaO (upsN n) legs w) (min w.length 12 : Nat) (witN w (min w.length 12)) = some (witP JaO (upsN n) legs w) := by
 have b : (witR JaO (upsN n) legs w).l.length = min w.length 12 := by simp only [witR, L06, L02]; omega
 unfold JeX; rw [if_pos, L12]
 . rfl
 . refine ⟨JgE 0, Jcx.2 ⟨?_, by rw [b]; omega, fun s c => ?_⟩, by rw [b]; omega, ?_⟩
   . simp only [witR]; omega
   . obtain ⟨x, _, rfl⟩ := L08.1 c
     exact Jqg n legs x
   . rw [L12]; exact Jms w _ _ (L0a _)
theorem Jki (n : Nat) (legs : List Lg) (w : List Int) : Jbd (keyS 0) (witP JaO (upsN n) legs w) = true := (JdC (Ji0 n legs w)).1
theorem JyO (n : Nat) (legs : List Lg) (w : List Int) : PtOK (witP JaO (upsN n) legs w) := by
 refine Jle (Ji0 n legs w) ?_
 have := Jgb w (min w.length 12)
 omega
theorem Jl0 (b : List (Int × Int)) : ∀ (l : List Lg) (v : Nat), (∀ i, i < l.length -> legF (gd l i) = true /\ (gd l i).f = (gd b (v + i)).1 /\ (gd l i).t = (gd b (v + i + 1)).1) -> JcB b v l = true
 | [], _, _ => rfl
 | x :: l, v, h => by
  rw [JcB, L00, L00, decide_eq_true_iff]
  have c := h 0 (by simp)
  rw [JaJ] at c
  refine ⟨c, Jl0 b l (v + 1) fun i d => ?_⟩
  have := h (i + 1) (by simpa using d)
  rw [JaC, show v + (i + 1) = v + 1 + i by omega] at this
  exact this
theorem Jdq (x : Nm) (b : List (Int × Int)) : (Jhj x b).length = b.length - 1 := by simp [Jhj]
theorem Jl1 (x : Nm) (b : List (Int × Int)) {i : Nat} (h : i < b.length - 1) : gd (Jhj x b) i = legM x b i := by simp [Jhj, gd, h]
theorem Jda (n : Nat) : (upsN n).length = n := by simp [upsN]
theorem JlW (x : List (Int × Int)) : 0 <= (JcA x).2 /\ (JcA x).2 <= 20 := by
 have h := Jdp x
 exact (JdI x _ (Jan (Jay x) _ (by omega))).2
theorem Ja8 (x : Nm) : Jb3 (Jaw x) = true := by
 have hl := Jdp x.hops; have h2 := JlW x.hops
 have hup : ((upsN ((JcA x.hops).2 + 2).toNat).length : Int) = (JcA x.hops).2 + 2 := by rw [Jda]; omega
 unfold Jb3; simp only [L00, decide_eq_true_iff, L0c]
 refine ⟨Jki _ _ _, ⟨⟨hl.1, by simp only [Jaw]; omega⟩, Jdq _ _, by simp [Jaw], by simp [Jaw], by simp [Jaw], ?_⟩, ?_, ?_, ?_, ?_, ?_⟩
 . simp only [Jaw]; omega
 . intro c hc
   obtain ⟨i, _, rfl⟩ := L08.1 hc
   exact (JqM _ _ _ _).2
 . intro c hc
   obtain ⟨i, _, rfl⟩ := L08.1 hc
   exact JrY _ _
 . intro c hc
   obtain ⟨i, _, rfl⟩ := L08.1 hc
   exact Jum _ _
 . refine JlQ _ _ _ (fun h hh => ?_) (fun v hv => ?_)
   . obtain ⟨i, hi, rfl⟩ : ∃ i, i < (Jay x.hops).length /\ gd (Jay x.hops) i = h := by
      have hh' : h ∈ Jay x.hops := hh
      obtain ⟨i, hi, e⟩ := List.mem_iff_getElem.1 hh'
      exact ⟨i, hi, by rw [gd, L1e, L09 hi]; exact e⟩
     have a := JdI x.hops _ hh
     have b := JlR x.hops ((Jay x.hops).length - 1 - i) i (by omega) (by omega)
     refine ⟨a.1, by omega, ?_⟩
     show _ < (((upsN ((JcA x.hops).2 + 2).toNat).length : Nat) : Int)
     omega
   . show (gd ((-1, 0) :: Jay x.hops) (v + 1)).1 ≠ _ /\ _
     have hv' : v < (Jay x.hops).length := hv
     show (gd ((-1, 0) :: Jay x.hops) (v + 1)).1 ≠ (gd ((-1, 0) :: Jay x.hops) v).1 /\ (gd ((-1, 0) :: Jay x.hops) v).2 <= (gd ((-1, 0) :: Jay x.hops) (v + 1)).2
     rw [JaC]
     cases v with
     | zero =>
      have a := JdI x.hops _ (Jan (Jay x.hops) 0 hv'); rw [JaJ]
      simp only
      omega
     | succ v =>
      rw [JaC]
      exact Jfd x.hops hv'
 . refine Jl0 _ _ _ fun i hi => ?_
   have hi' : i < (Jay x.hops).length - 1 := by rw [<- Jdq x]; exact hi
   show legF (gd (Jhj x (Jay x.hops)) i) = true /\ (gd (Jhj x (Jay x.hops)) i).f = _ /\ (gd (Jhj x (Jay x.hops)) i).t = _
   rw [Jl1 _ _ hi', L0n]
   exact ⟨Jo0 x (by omega), rfl, rfl⟩
abbrev HPP (h : Int × Int) : AV := .agg [I h.1, I h.2]
abbrev LGS (l : List Lg) : AV := .sl 6 (l.map LGP)
abbrev TPP (t : Tp) : AV := .agg [HPS t.hops, LGS t.legs, CKS t.cks, TFS t.tfs, SL t.offs, Str t.key, I t.part.h.c, I t.part.h.n, Str t.part.h.r, Str t.part.h.s, ITS t.part.l, Str t.call, SLs t.ups]
abbrev TRP (t : Tp) : AV := .agg [HPS t.hops, LGS t.legs, CKS t.cks, TFS t.tfs, SL t.offs, Str t.key, I t.part.h.c, I t.part.h.n, Str t.part.h.r, Str t.part.h.s, ITS t.part.l, Str t.call, SLs t.ups, .mp ((evM (evF t.key t.part)).map entS)]
section
variable (p : Nat -> Bool) (l : List Lg)
@[go_sem] theorem JvN : AV.namesL p (l.map LGP) = false := Jam p l LGP fun _ => rfl
@[go_sem] theorem Jxn : AV.flatL (l.map LGP) = true := Ja5 l LGP fun _ => rfl
@[go_sem] theorem Jwt : JbH 6 (l.map LGP) = true := JaD 6 l LGP fun _ => ⟨rfl, rfl⟩
end
section
variable (p : Nat -> Bool) (l : List (Int × Int))
@[go_sem] theorem JvL : AV.namesL p (l.map HPP) = false := Jam p l HPP fun _ => rfl
@[go_sem] theorem Jxm : AV.flatL (l.map HPP) = true := Ja5 l HPP fun _ => rfl
@[go_sem] theorem Jwr : JbH 2 (l.map HPP) = true := JaD 2 l HPP fun _ => ⟨rfl, rfl⟩
end
structure Tp.ok (t : Tp) : Prop where
 part : PtOK t.part
 rds : ∀ c ∈ t.cks, c.r.length <= 9223372036854775807
 good : ∀ x ∈ t.tfs, JaV x = true
 hops : t.hops.length <= 9223372036854775807
 legs : t.legs.length <= 9223372036854775807
 cks : t.cks.length <= 9223372036854775807
 tfs : t.tfs.length <= 9223372036854775807
 offs : t.offs.length <= 9223372036854775807
 ups : t.ups.length <= 9223372036854775807
theorem Jrr (c : Ck) (b : c.r.length <= 9223372036854775807) : Ev prog 101 [CKP c] (B (!Jbe c)) := by
 refine EV func101 ?_
 simp -implicitDefEqProofs (disch := omega) only [go_sem, ntmps101]
 refine Jaa (Jhp c b) ?_
 simp -implicitDefEqProofs (disch := omega) only [go_sem, results101]
theorem Jrs (x : Tf) (h : JaV x = true) : Ev prog 104 [TF x] (B (!JaV x)) := by
 rw [h]
 refine EV func104 ?_
 simp -implicitDefEqProofs (disch := omega) only [go_sem, ntmps104]
 refine Jaa (Jmp x h) ?_
 simp -implicitDefEqProofs (disch := omega) only [go_sem, results104]
theorem Jrt (n : Int) : Ev prog 107 [I n] (B (!Jbr n)) := by
 refine EV func107 ?_
 simp -implicitDefEqProofs (disch := omega) only [go_sem, ntmps107]
 refine Jaa (Jc0 n (-50400) 50400) ?_
 simp -implicitDefEqProofs (disch := omega) only [go_sem, results107]; try rfl
theorem Jug {T : Type} (Q : T -> Bool) (l : List T) : (l.any fun x => !Q x) = !l.all Q := by rw [<- Jkn, Bool.not_not]
abbrev opV (z : Bool) (r : AV) : AV := if z = true then .tup [r, I 0] else .tup [.v (.pointer none), I 380]
set_option maxHeartbeats 8000000 in
theorem Jl9 (t : Tp) (ht : t.ok) : Ev prog 64 [TPP t] (opV (Jb3 t) (.nptr 190 14 [TRP t])) := by
 obtain ⟨o1, o2, o3, o4, o5, o6, o7, o8, o9⟩ := ht; have R := Jk4 t.key t.part o1
 have S := JtO 101 [] (fun c => !Jbe c) t.cks (fun c F => Jrr c (o2 c F)) (fun _ => rfl) (fun _ => rfl) o6
 have T := JtQ 104 [] (fun c => !JaV c) t.tfs (fun c F => Jrs c (o3 c F)) (fun _ => rfl) (fun _ => rfl) o7
 have U := JtP 107 [] (fun c => !Jbr c) t.offs (fun c F => Jrt c) (fun _ => rfl) (fun _ => rfl) o8
 rw [Jug] at S T U
 have d : Jb3 t = (Jbd t.key t.part && (decide ((1 <= t.hops.length /\ t.hops.length <= 12) /\ t.legs.length = t.hops.length - 1 /\ t.cks.length = 8 /\ t.tfs.length = 8 /\ t.offs.length = 8 /\ t.ups.length <= 30) &&
  (t.cks.all Jbe && (t.tfs.all JaV && (t.offs.all Jbr && (Jdo t.ups.length (-1, 0) t.hops && JcB t.hops 0 t.legs)))))) := rfl
 obtain ⟨N, hN⟩ := JeD (evF t.key t.part)
 simp only [TRP, opV]; rw [hN] at R ⊢; generalize Jb3 t = z at *; generalize Jbd t.key t.part = g at *; generalize t.cks.all Jbe = b1 at *; generalize t.tfs.all JaV = b2 at *; generalize t.offs.all Jbr = b3 at *
 obtain ⟨hops, legs, cks, tfs, offs, L, ⟨⟨pc, pn, pr, ps⟩, pl⟩, G, ups⟩ := t
 simp only at *
 clear hN o1 o2 o3
 refine EV func64 ?_
 simp -implicitDefEqProofs (disch := omega) only [go_sem, ntmps64]
 refine Jaa R ?_
 cases g with
 | false =>
  rw [L04] at d; subst d; simp -implicitDefEqProofs (disch := omega) only [go_sem, results64]
 | true =>
 rw [L0d] at d; simp -implicitDefEqProofs (disch := omega) only [go_sem]
 refine Jaa (Jc0 hops.length 1 12) ?_
 by_cases h1 : 1 <= (hops.length : Int) /\ (hops.length : Int) <= 12
 rotate_left
 . rw [decide_eq_false (by omega), L04] at d
   rw [decide_eq_false h1]; subst d; simp -implicitDefEqProofs (disch := omega) only [go_sem, results64]
 rw [decide_eq_true h1]; simp -implicitDefEqProofs (disch := omega) only [go_sem]
 refine Jab (fun V => ?_) (fun V => ?_)
 . rw [decide_eq_false (by omega), L04] at d
   subst d; simp -implicitDefEqProofs (disch := omega) only [go_sem, V, results64]
 simp -implicitDefEqProofs (disch := omega) only [go_sem]
 refine Jab (fun W => ?_) (fun W => ?_)
 . rw [decide_eq_false (by omega), L04] at d
   subst d; simp -implicitDefEqProofs (disch := omega) only [go_sem, W, results64]
 simp -implicitDefEqProofs (disch := omega) only [go_sem]
 refine Jab (fun X => ?_) (fun X => ?_)
 . rw [decide_eq_false (by omega), L04] at d
   subst d; simp -implicitDefEqProofs (disch := omega) only [go_sem, X, results64]
 simp -implicitDefEqProofs (disch := omega) only [go_sem]
 refine Jab (fun Y => ?_) (fun Y => ?_)
 . rw [decide_eq_false (by omega), L04] at d
   subst d; simp -implicitDefEqProofs (disch := omega) only [go_sem, Y, results64]
 simp -implicitDefEqProofs (disch := omega) only [go_sem]
 refine Jab (fun Z => ?_) (fun Z => ?_)
 . rw [decide_eq_false (by omega), L04] at d
   subst d; simp -implicitDefEqProofs (disch := omega) only [go_sem, Z, results64]
 simp -implicitDefEqProofs (disch := omega) only [go_sem]
 rw [decide_eq_true (by omega), L0d] at d
 refine Jaa S ?_
 cases b1 with
 | false =>
  rw [L04] at d; subst d; simp -implicitDefEqProofs (disch := omega) only [go_sem, results64]
 | true =>
 rw [L0d] at d; simp -implicitDefEqProofs (disch := omega) only [go_sem]
 refine Jaa T ?_
 cases b2 with
 | false =>
  rw [L04] at d; subst d; simp -implicitDefEqProofs (disch := omega) only [go_sem, results64]
 | true =>
 rw [L0d] at d; simp -implicitDefEqProofs (disch := omega) only [go_sem]
 refine Jaa U ?_
 cases b3 with
 | false =>
  rw [L04] at d; subst d; simp -implicitDefEqProofs (disch := omega) only [go_sem, results64]
 | true =>
 rw [L0d] at d; simp -implicitDefEqProofs (disch := omega) only [go_sem]
 refine Jag (fun n E J => ∃ (i : Nat) (C : Int × Int), i + n = hops.length /\ z = (Jdo ups.length C (hops.drop i) && JcB hops 0 legs) /\ E 1 = .ptr 136314896 13 0 0 /\ E 4 = .mp ((mI N).map entS) /\ E 6 = .ptr 136314976 2 0 0 /\ E 77 = HPS hops /\ E 78 = I hops.length /\ E 79 = I i /\
  J 136314896 = some ⟨52, 13, [.agg [HPS hops, LGS legs, CKS cks, TFS tfs, SL offs, Str L, I pc, I pn, Str pr, Str ps, ITS pl, Str G, SLs ups]]⟩ /\ J 136314976 = some ⟨88, 2, [.agg [I C.1, I C.2]]⟩) hops.length ⟨0, (-1, 0), by omega, d, ?_⟩ ?_
 . simp -implicitDefEqProofs (disch := omega) only [go_sem]; try rfl
 clear d
 rintro n E J ⟨i, ⟨la, lb⟩, hi, d, q, s, y, m, o, p, u, B⟩
 simp -implicitDefEqProofs (disch := omega) only [go_sem, q, s, y, m, o, p, u, B]
 refine Jab (fun F => ?_) (fun F => ?_)
 . have H : i < hops.length := by omega
   rw [Jaz hops i H, Jdo, L1t] at d; generalize D : gd hops i = h at *; obtain ⟨P, Q⟩ := h
   simp only at *
   simp -implicitDefEqProofs (disch := omega) only [go_sem, D, q, s, y, m, o, p, u, B]
   refine Jaa (JcZ P) ?_
   by_cases M : 0 <= P /\ P <= 7
   rotate_left
   . rw [decide_eq_false (by omega), L04] at d
     rw [decide_eq_false M]; subst d; simp -implicitDefEqProofs (disch := omega) only [go_sem, D, q, s, y, m, o, p, u, B, results64]
   rw [decide_eq_true M]; simp -implicitDefEqProofs (disch := omega) only [go_sem, D, q, s, y, m, o, p, u, B]
   refine Jab (fun O => ?_) (fun O => ?_)
   . rw [decide_eq_false (by omega), L04] at d
     subst d; simp -implicitDefEqProofs (disch := omega) only [go_sem, D, O, q, s, y, m, o, p, u, B, results64]
   simp -implicitDefEqProofs (disch := omega) only [go_sem, D, q, s, y, m, o, p, u, B]
   refine Jaa (Jc0 Q lb 29) ?_
   by_cases q3 : lb <= Q /\ Q <= 29
   rotate_left
   . rw [decide_eq_false (by omega), L04] at d
     rw [decide_eq_false q3]; subst d; simp -implicitDefEqProofs (disch := omega) only [go_sem, D, q, s, y, m, o, p, u, B, results64]
   rw [decide_eq_true q3]; simp -implicitDefEqProofs (disch := omega) only [go_sem, D, q, s, y, m, o, p, u, B]
   refine Jab (fun q4 => ?_) (fun q4 => ?_)
   . rw [decide_eq_false (by omega), L04] at d
     subst d; simp -implicitDefEqProofs (disch := omega) only [go_sem, D, q4, q, s, y, m, o, p, u, B, results64]
   rw [decide_eq_true (by omega), L0d] at d
   simp -implicitDefEqProofs (disch := omega) only [go_sem, D, q, s, y, m, o, p, u, B]
   refine Jad (hops.length - (i + 1)) (by omega) ⟨i + 1, (P, Q), by omega, d, ?_⟩
   simp -implicitDefEqProofs (disch := omega) only [go_sem, D, q, s, y, m, o, p, u, B]; try rfl
 obtain rfl : i = hops.length := by omega
 rw [L0C, Jdo, L0d] at d; simp -implicitDefEqProofs (disch := omega) only [go_sem, q, s, y, m, o, p, u, B]; clear y m o p B F hi
 have K : z = JcB hops 0 (legs.drop 0) := d
 refine Jag (fun n E J => ∃ (i : Nat), i + n = legs.length /\ z = JcB hops i (legs.drop i) /\ E 1 = .ptr 136314896 13 0 0 /\ E 4 = .mp ((mI N).map entS) /\ E 113 = LGS legs /\ E 114 = I legs.length /\ E 115 = I i /\
  J 136314896 = some ⟨52, 13, [.agg [HPS hops, LGS legs, CKS cks, TFS tfs, SL offs, Str L, I pc, I pn, Str pr, Str ps, ITS pl, Str G, SLs ups]]⟩) legs.length ⟨0, by omega, K, ?_⟩ ?_
 . simp -implicitDefEqProofs (disch := omega) only [go_sem, q, s, u]; try rfl
 clear d K q s u E J n
 rintro n E J ⟨i, hi, d, q, s, f, j, k, u⟩
 simp -implicitDefEqProofs (disch := omega) only [go_sem, q, s, f, j, k, u]
 refine Jab (fun F => ?_) (fun F => ?_)
 . have H : i < legs.length := by omega
   have aa : i + 1 < hops.length := by omega
   rw [Jaz legs i H, JcB, L1t] at d; have c3 := Jf0 (gd legs i); generalize w : gd legs i = l at *; generalize legF l = b at *; obtain ⟨lf, lt, lg, lk⟩ := l
   simp only at *
   simp -implicitDefEqProofs (disch := omega) only [go_sem, w, q, s, f, j, k, u]
   refine Jaa c3 ?_
   cases b with
   | false =>
    rw [L04] at d; subst d; simp -implicitDefEqProofs (disch := omega) only [go_sem, w, q, s, f, j, k, u, results64]
   | true =>
   rw [L0d] at d
   have A : ((i : Int) + 1).toNat = i + 1 := by omega
   simp -implicitDefEqProofs (disch := omega) only [go_sem, w, q, s, f, j, k, u, A]
   refine Jab (fun M => ?_) (fun M => ?_)
   . rw [decide_eq_false (by omega), L04] at d
     subst d; simp -implicitDefEqProofs (disch := omega) only [go_sem, w, M, q, s, f, j, k, u, A, results64]
   simp -implicitDefEqProofs (disch := omega) only [go_sem, w, q, s, f, j, k, u, A]
   refine Jab (fun O => ?_) (fun O => ?_)
   . rw [decide_eq_false (by omega), L04] at d
     subst d; simp -implicitDefEqProofs (disch := omega) only [go_sem, w, O, q, s, f, j, k, u, A, results64]
   rw [decide_eq_true (by omega), L0d] at d
   simp -implicitDefEqProofs (disch := omega) only [go_sem, w, q, s, f, j, k, u, A]
   refine Jad (legs.length - (i + 1)) (by omega) ⟨i + 1, by omega, d, ?_⟩
   simp -implicitDefEqProofs (disch := omega) only [go_sem, w, q, s, f, j, k, u, A]; try rfl
 obtain rfl : i = legs.length := by omega
 rw [L0C, JcB] at d; subst d; simp -implicitDefEqProofs (disch := omega) only [go_sem, q, s, f, j, k, u, results64]
theorem JkZ (t : Tp) (b : t.ok) (h : Jb3 t = true) : Ev prog 64 [TPP t] (.tup [.pt (TRP t) 0, I 0]) := by
 have := Jl9 t b
 rw [h] at this
 exact JeE (r := .tup [.nptr 190 14 [TRP t], I 0]) this _
theorem Jl8 (t : Tp) (b : t.ok) (h : Jb3 t = false) : Ev prog 64 [TPP t] (.tup [.v (.pointer none), I 380]) := by
 have := Jl9 t b
 rw [h] at this; exact this
theorem JaK {t : Tp} : Jb3 t = true ↔ Jbd t.key t.part = true /\ ((1 <= t.hops.length /\ t.hops.length <= 12) /\ t.legs.length = t.hops.length - 1 /\ t.cks.length = 8 /\ t.tfs.length = 8 /\ t.offs.length = 8 /\ t.ups.length <= 30) /\
 t.cks.all Jbe = true /\ t.tfs.all JaV = true /\ t.offs.all Jbr = true /\ Jdo t.ups.length (-1, 0) t.hops = true /\ JcB t.hops 0 t.legs = true := by
 unfold Jb3; simp only [L00, decide_eq_true_iff]
theorem JiV {t : Tp} (h : Jb3 t = true) {i : Nat} (hi : i < t.hops.length) : (0 <= (gd t.hops i).1 /\ (gd t.hops i).1 <= 7) /\ (0 <= (gd t.hops i).2 /\ (gd t.hops i).2 <= 29) /\ (gd t.hops i).2 < t.ups.length :=
 JoL t.ups.length t.hops (-1, 0) (JaK.1 h).2.2.2.2.2.1 i hi
theorem JiW {t : Tp} (h : Jb3 t = true) {i : Nat} (hi : i < t.legs.length) : legF (gd t.legs i) = true /\ (gd t.legs i).f = (gd t.hops i).1 /\ (gd t.legs i).t = (gd t.hops (i + 1)).1 := by
 have := Jo1 t.hops t.legs 0 (JaK.1 h).2.2.2.2.2.2 i hi
 rw [L0n] at this; exact this
set_option maxHeartbeats 2000000 in
theorem Jmc (t : Tp) (h : Jb3 t = true) (i : Nat) (hi : i < t.legs.length) : Ev prog 71 [.pt (TRP t) 0, I i] (I (payF t i)) := by
 have B := (JaK.1 h).2.1
 have s := fun i => JiV h (i := i)
 have c : payF t i = if i = 0 then (gd t.hops 0).1
  else if (gd t.hops (i - 1)).2 + 1 < t.ups.length /\ Ja0 (evF t.key t.part) (gd t.ups ((gd t.hops (i - 1)).2 + 1).toNat) t.call = 1 then (gd t.hops (i - 1)).1
  else (gd t.hops i).1 := rfl
 have l := Jio (evF t.key t.part) (gd t.ups ((gd t.hops (i - 1)).2 + 1).toNat) t.call
 obtain ⟨N, o⟩ := JeD (evF t.key t.part)
 simp only [TRP] at *; rw [o] at l ⊢; generalize payF t i = P at *; generalize Ja0 (evF t.key t.part) (gd t.ups ((gd t.hops (i - 1)).2 + 1).toNat) t.call = w at *
 obtain ⟨hops, legs, cks, tfs, offs, z, ⟨⟨D, F, G, H⟩, E⟩, m, ups⟩ := t
 simp only at *
 clear o h
 refine EV func71 ?_
 simp -implicitDefEqProofs (disch := omega) only [go_sem, ntmps71]
 refine Jab (fun p => ?_) (fun p => ?_)
 . obtain rfl : i = 0 := by omega
   rw [if_pos rfl] at c
   have q : 0 < hops.length := by omega
   simp -implicitDefEqProofs (disch := omega) only [go_sem, c, results71]; try rfl
 rw [if_neg (by omega)] at c
 have d : ((i : Int) - 1).toNat = i - 1 := by omega
 have k : i - 1 < hops.length := by omega
 have u : i < hops.length := by omega
 obtain ⟨J, K, L⟩ := s _ k
 generalize f : gd hops i = y at *; generalize b : gd hops (i - 1) = x at *; obtain ⟨M, A⟩ := x; obtain ⟨O, Q⟩ := y
 simp only at *
 simp -implicitDefEqProofs (disch := omega) only [go_sem, d, f, b]
 refine Jab (fun j => ?_) (fun j => ?_)
 . have C : (A + 1).toNat < ups.length := by omega
   simp -implicitDefEqProofs (disch := omega) only [go_sem, d, f, b]
   refine Jaa l ?_
   simp -implicitDefEqProofs (disch := omega) only [go_sem, d, f, b]
   refine Jab (fun g => ?_) (fun g => ?_)
   . rw [if_pos ⟨j, g⟩] at c; subst c; simp -implicitDefEqProofs (disch := omega) only [go_sem, d, f, b, g, results71]
   . rw [if_neg (fun h => g h.2)] at c
     subst c; simp -implicitDefEqProofs (disch := omega) only [go_sem, d, f, b, g, results71]
 . rw [if_neg (fun h => j h.1)] at c
   subst c; simp -implicitDefEqProofs (disch := omega) only [go_sem, d, f, b, results71]
theorem JqD (t : Tp) : Ev prog 66 [.pt (TRP t) 0] (.clo 110 [.pt (.pt (TRP t) 0) 0]) := by
 refine JeE (r := .clo 110 [.nptr 135 1 [.pt (TRP t) 0]]) ?_ _
 refine EV func66 ?_
 simp -implicitDefEqProofs (disch := omega) only [go_sem, ntmps66, results66]
abbrev BLP (b : Bl) : AV := .agg [I b.p, I b.q, I b.f, I b.t, I b.a]
abbrev BLS (l : List Bl) : AV := .sl 5 (l.map BLP)
abbrev BW (b : Bl) : List AV := [BLP b]
section
variable (p : Nat -> Bool) (l : List Bl)
@[go_sem] theorem JvH : AV.namesL p (l.map BLP) = false := Jam p l BLP fun _ => rfl
@[go_sem] theorem Jxl : AV.flatL (l.map BLP) = true := Ja5 l BLP fun _ => rfl
@[go_sem] theorem Jwo : JbH 5 (l.map BLP) = true := JaD 5 l BLP fun _ => ⟨rfl, rfl⟩
end
@[go_sem] theorem JuY (l : List Bl) (a b c d e : Int) : l.map BLP ++ [.agg [.v (.int .i64 a), .v (.int .i64 b), .v (.int .i64 c), .v (.int .i64 d), .v (.int .i64 e)]] = (l ++ [(⟨a, b, c, d, e⟩ : Bl)]).map BLP := by simp
theorem JgO (p : Nat -> Bool) (l : List Bl) : AV.namesL p ((l.map BW).map .tup) = false := by
 induction l with
 | nil => rfl
 | cons q l b =>
  show AV.namesL p (.tup (BW q) :: (l.map BW).map .tup) = false
  simp only [go_sem, b]
  first | done | simp
attribute [go_sem] JgO
@[go_sem] theorem JvI (p : Nat -> Bool) (l : List Bl) : AV.namesL p (l.map (AV.tup ∘ BW)) = false := by
 rw [<- L1d]; exact JgO p l
abbrev TRQ (t : Tp) (N : List (ByteArray × Nat)) : AV := .agg [HPS t.hops, LGS t.legs, CKS t.cks, TFS t.tfs, SL t.offs, Str t.key, I t.part.h.c, I t.part.h.n, Str t.part.h.r, Str t.part.h.s, ITS t.part.l, Str t.call, SLs t.ups, .mp ((mI N).map entS)]
instance plainZ (P : Program) (f N l : Nat) (b : List Nat) : Plain (spZ P f N l b) := ⟨Jml P f N l b⟩
set_option maxHeartbeats 8000000 in
theorem JnX (t : Tp) (G : t.ok) (h : Jb3 t = true) : SOK prog 110 [.pt (.pt (TRP t) 0) 0] (stO []) ((Jbu t).map BW) := by
 have hl := (JaK.1 h).2.1
 obtain ⟨_, _, M, O, C, _, _⟩ := JaK.1 h
 have s := fun i => JiW h (i := i)
 have j := fun i F => Jmc t h i F
 have K := JbK t
 have J := fun i F => Jew t (i := i) F
 have q : ∀ i, Jkp t i = ⟨payF t i, (gd t.legs i).t, (Jbm t (gd t.legs i)).1.1, (Jbm t (gd t.legs i)).1.2, amtF (gd t.tfs (gd t.legs i).t.toNat) (gd t.offs (gd t.legs i).t.toNat) (Jbm t (gd t.legs i)).1.1 (Jbm t (gd t.legs i)).1.2⟩ := fun i => rfl
 have k : ∀ l : Lg, legF l = true -> Ev prog 76 [.mp ((evM (evF t.key t.part)).map entS), CKP (gd t.cks l.f.toNat), CKP (gd t.cks l.t.toNat), LGP l] (biV (Jbm t l)) := fun l B => by
  obtain ⟨⟨Z, f2, f3⟩, _⟩ := Jb4.1 B
  exact Jjb (evF t.key t.part) _ _ l B (G.rds _ (Jan _ _ (by omega))) (G.rds _ (Jan _ _ (by omega)))
 have D : ∀ l : Lg, JcT (Jbm t l).1.1 (Jbm t l).1.2 = true := fun l => (JnW _ _ _ l).1
 have u := G.good
 have z : ∀ n ∈ t.offs, Jbr n = true := L0c.1 C
 obtain ⟨N, R⟩ := JeD (evF t.key t.part)
 simp only [TRP] at *; rw [R] at j k ⊢
 have j : ∀ i, i < t.legs.length -> Ev prog 71 [.pt (TRQ t N) 0, I i] (I (payF t i)) := j
 show SOK _ _ [.pt (.pt (TRQ t N) 0) 0] _ _
 generalize Jbu t = L at *; generalize Jbm t = S at *; generalize Jkp t = BF at *; generalize payF t = T at *; clear R h G M O C
 refine JuC [4, 5] func110 rfl (by kernel_rfl) mo (nb rfl) rfl ?_ rfl fun y => ?_
 . exact JgO allB _
 have h0 : ((L.map BW).map AV.tup) = ((L.drop 0).map BW).map AV.tup := rfl
 simp -implicitDefEqProofs (disch := omega) only [go_sem, ntmps110]; rw [h0]
 refine Jag (fun n E σ => ∃ (i : Nat), i + n = t.legs.length /\ E 0 = .yld y /\ E 1 = .pt (.pt (TRQ t N) 0) 0 /\ E 10 = LGS t.legs /\ E 11 = I t.legs.length /\ E 12 = I i /\ E 81 = .tup (((L.drop i).map BW).map .tup)) t.legs.length ⟨0, by omega, ?_⟩ ?_
 . simp -implicitDefEqProofs (disch := omega) only [go_sem]; try rfl
 rintro n E σ ⟨i, F, o, p, c, d, g, b⟩
 simp -implicitDefEqProofs (disch := omega) only [go_sem, o, p, c, d, g, b]
 refine Jab (fun hc => ?_) (fun hc => ?_)
 . have w : i < t.legs.length := by omega
   obtain ⟨H, g2, g3⟩ := s i w
   have U := j i w; have V := k (gd t.legs i) H; have X := D (gd t.legs i); have Q := q i
   obtain ⟨⟨Z, f2, f3⟩, _⟩ := Jb4.1 H
   rw [Jaz L i (by omega), J i w, Q] at b
   have Y := JnN (gd t.tfs (gd t.legs i).t.toNat) (gd t.offs (gd t.legs i).t.toNat) _ _ (u _ (Jan _ _ (by omega))) (z _ (Jan _ _ (by omega))) X
   have b1 : (gd t.legs i).f.toNat < t.cks.length := by omega
   have b2 : (gd t.legs i).t.toNat < t.cks.length := by omega
   have b3 : (gd t.legs i).t.toNat < t.tfs.length := by omega
   have b4 : (gd t.legs i).t.toNat < t.offs.length := by omega
   clear Q q k j D s H g2 g3; generalize hW : S (gd t.legs i) = W at *; generalize T i = P at *; generalize hA : amtF (gd t.tfs (gd t.legs i).t.toNat) (gd t.offs (gd t.legs i).t.toNat) W.1.1 W.1.2 = A at *; generalize m : gd t.legs i = l at *; obtain ⟨lf, lt, lg, lk⟩ := l
   obtain ⟨⟨w1, w2⟩, w3⟩ := W
   simp only at *
   clear hW hA; simp -implicitDefEqProofs (disch := omega) only [go_sem, o, p, c, d, g, b, m]
   refine Jaa U ?_
   simp -implicitDefEqProofs (disch := omega) only [go_sem, o, p, c, d, g, b, m]
   iterate 4
    first | refine Jco Plain.mono ?_ | refine Jaa V ?_ | refine Jaa Y ?_
    simp -implicitDefEqProofs (disch := omega) only [go_sem, o, p, c, d, g, b, m, false_and, and_self]
   refine ⟨?_, .inr trivial⟩
   refine Jad (t.legs.length - (i + 1)) (by omega) ⟨i + 1, by omega, ?_⟩
   simp -implicitDefEqProofs (disch := omega) only [go_sem, o, p, c, d, g, b]; try rfl
 . obtain rfl : i = t.legs.length := by omega
   rw [<- K, L0C] at b
   have b : E 81 = .tup [] := b
   simp -implicitDefEqProofs (disch := omega) only [go_sem, b]
   exact .inl trivial
set_option maxHeartbeats 2000000 in
theorem Ji7 (X : AV) (L : List Bl) (z : ∀ p, AV.namesL p [.pt X 0] = false) (H : SOK prog 110 [.pt X 0] (stO []) (L.map BW)) (F : L.length <= 1000) :
 Ev prog 109 [.v (.slice none 0 0), .clo 110 [.pt X 0]] (BLS L) := by
 refine EW [1, 4] func109 ?_
 simp -implicitDefEqProofs (disch := omega) only [go_sem, ntmps109, z]
 refine Jbo 230686752 230686753 0 0 86 5 (k := ⟨70, 1, [.v (.slice none 0 0)]⟩) (el := .v (.slice none 0 0)) (by simp -implicitDefEqProofs (disch := omega) only [go_sem]) (by decide) rfl rfl (by simp) (by simp -implicitDefEqProofs (disch := omega) only [go_sem]) rfl ?_
 refine JeQ Plain.mono ?_
 simp -implicitDefEqProofs (disch := omega) only [go_sem, z]
 refine Jca ?_
 refine JdO [] [230686752] 14418020 (L.map BW)
  (fun M h => ∃ (o r : List Bl) (x : Nat), L = o ++ r /\ M = r.map BW /\ x = 230686753 /\ h 230686752 = some ⟨70, 1, [.own x 5 0 o.length]⟩ /\ h x = some ⟨86, 5, o.map BLP⟩)
  (g := 110) (caps := [.pt X 0]) ?_ ?_ ?_ ?_ ?_ ?_ ?_ ?_
 . simp -implicitDefEqProofs (disch := omega) only [go_sem]
 . rw [JjP]; exact H
 . intro x j
   obtain ⟨y, _, rfl⟩ := L08.1 j
   rfl
 . exact z _
 . simp -implicitDefEqProofs (disch := omega) only [go_sem]
 . refine ⟨[], L, _, rfl, rfl, rfl, ?_⟩
   simp -implicitDefEqProofs (disch := omega) only [go_sem, z]
   try exact ⟨rfl, rfl⟩
 . rintro w d y t B ⟨o, r, x, i, c, j, l, m⟩
   have s : w 2 = .ptr 230686752 1 0 0 := by rw [d]; simp -implicitDefEqProofs (disch := omega) only [go_sem]
   clear d
   obtain ⟨q, f, rfl, rfl, rfl⟩ : ∃ q f, r = q :: f /\ y = BW q /\ t = f.map BW := by
    cases r with
    | nil => cases c
    | cons q f => simp only [L0q, List.cons.injEq] at c; exact ⟨q, f, rfl, c.1, c.2⟩
   have G : o.length + 1 <= 1000 := by rw [i, L07, L0h] at F; omega
   generalize C : rQ _ _ w _ = R
   have D : ∀ (E : Env) (h : Jac) (u : Nat), u = 230686753 -> h 230686752 = some ⟨70, 1, [.own u 5 0 (o.length + 1)]⟩ -> h u = some ⟨86, 5, (o ++ [q]).map BLP⟩ -> R .normal E h := by
    intro E h u I J K
    rw [<- C]
    refine ⟨inL [], fun _ _ => rfl, ?_⟩
    rw [Jci]
    exact ⟨o ++ [q], f, u, by rw [i, L0I]; rfl, rfl, I, by rw [L07]; exact J, K⟩
   clear C i; obtain ⟨N, O, P, Q, S⟩ := q
   have b : o.take o.length = o := L0e
   have A := j; subst j; simp -implicitDefEqProofs (disch := omega) only [go_sem, s, l, m, b]
   refine D _ _ _ A ?_ ?_
   . simp -implicitDefEqProofs (disch := omega) only [go_sem, l, b]
   . simp -implicitDefEqProofs (disch := omega) only [go_sem, m, b]
 . rintro w d B ⟨o, r, x, i, c, j, l, m⟩
   have s : w 2 = .ptr 230686752 1 0 0 := by rw [d]; simp -implicitDefEqProofs (disch := omega) only [go_sem]
   clear d
   obtain rfl : r = [] := by
    cases r with
    | nil => rfl
    | cons q f => cases c
   rw [L0J] at i; subst i
   have b : L.take L.length = L := L0e
   subst j; simp -implicitDefEqProofs (disch := omega) only [go_sem, s, l, m]
   refine Jap Plain.mono [230686752, 230686753] ?_
   simp -implicitDefEqProofs (disch := omega) only [go_sem, s, l, m, b, L06]; simp -implicitDefEqProofs (disch := omega) only [go_sem, s, l, m, b, L06, results109]
theorem JmM (X : AV) (L : List Bl) (d : ∀ p, AV.namesL p [.pt X 0] = false) (b : ∀ σ, [AV.pt X 0].map (res σ) = [.pt X 0]) (g : SOK prog 110 [.pt X 0] (stO []) (L.map BW)) (f : L.length <= 1000) :
 Ev prog 65 [.clo 110 [.pt X 0]] (BLS L) := by
 have c := Ji7 X L d g f
 refine EV func65 ?_
 simp -implicitDefEqProofs (disch := omega) only [go_sem, ntmps65, d, b]
 refine Jaa c ?_
 simp -implicitDefEqProofs (disch := omega) only [go_sem, results65]
theorem Jjc (t : Tp) (d : t.ok) (h : Jb3 t = true) : Ev prog 23 [TPP t] (.tup [BLS (Jbu t), I 0]) := by
 have f := JkZ t d h; have g := JqD t; have c := JnX t d h
 have b : (Jbu t).length <= 1000 := by
  have := (JaK.1 h).2.1
  rw [JbK]; omega
 obtain ⟨N, j⟩ := JeD (evF t.key t.part)
 simp only [TRP] at *; rw [j] at f g c; generalize Jbu t = L at *
 obtain ⟨hops, legs, cks, tfs, offs, l, ⟨⟨m, q, s, u⟩, o⟩, i, ups⟩ := t
 simp only at *
 have k := JmM _ L (fun p => by simp only [go_sem]) (fun w => by simp only [go_sem]) c b
 clear c j h d
 refine EV func23 ?_
 simp -implicitDefEqProofs (disch := omega) only [go_sem, ntmps23]
 iterate 2
  first | refine Jaa f ?_ | refine Jaa g ?_
  simp -implicitDefEqProofs (disch := omega) only [go_sem]
 refine Jaa k ?_
 simp -implicitDefEqProofs (disch := omega) only [go_sem, results23]
theorem JmB (t : Tp) (c : t.ok) (h : Jb3 t = false) : Ev prog 23 [TPP t] (.tup [BLS [], I 380]) := by
 have b := Jl8 t c h
 refine JeE (r := .tup [.new 86 5 [], I 380]) ?_ _
 refine EV func23 ?_
 simp -implicitDefEqProofs (disch := omega) only [go_sem, ntmps23]
 refine Jaa b ?_
 simp -implicitDefEqProofs (disch := omega) only [go_sem, results23]
abbrev payV (t : Tp) (i : Int) : AV := if Jb3 t = true /\ (0 <= i /\ i <= (t.legs.length : Int) - 1) then .tup [I (payF t i.toNat), I 0] else .tup [I 0, I 380]
theorem JjS (t : Tp) (d : t.ok) (i : Int) : Ev prog 26 [TPP t, I i] (payV t i) := by
 have f := Jc0 i 0 ((t.legs.length : Int) - 1)
 by_cases h : Jb3 t = true
 . by_cases hi : 0 <= i /\ i <= (t.legs.length : Int) - 1
   . have b := JkZ t d h
     obtain ⟨k, rfl⟩ := L1Z hi.1
     have m := Jmc t h k (by omega)
     rw [payV, if_pos ⟨h, hi⟩, L12]; rw [decide_eq_true hi] at f
     obtain ⟨N, g⟩ := JeD (evF t.key t.part)
     simp only [TRP] at *; rw [g] at b m; generalize payF t k = P at *
     obtain ⟨hops, legs, cks, tfs, offs, l, ⟨⟨p, s, u, w⟩, q⟩, c, ups⟩ := t
     have o := d.legs
     simp only at *
     refine EV func26 ?_
     simp -implicitDefEqProofs (disch := omega) only [go_sem, ntmps26]
     iterate 2
      first | refine Jaa b ?_ | refine Jaa f ?_
      simp -implicitDefEqProofs (disch := omega) only [go_sem]
     refine Jaa m ?_
     simp -implicitDefEqProofs (disch := omega) only [go_sem, results26]
   . have b := JkZ t d h
     rw [payV, if_neg (fun j => hi j.2)]
     rw [decide_eq_false hi] at f
     obtain ⟨N, g⟩ := JeD (evF t.key t.part)
     simp only [TRP] at *; rw [g] at b
     obtain ⟨hops, legs, cks, tfs, offs, l, ⟨⟨p, s, u, w⟩, q⟩, c, ups⟩ := t
     have o := d.legs
     simp only at *
     refine EV func26 ?_
     simp -implicitDefEqProofs (disch := omega) only [go_sem, ntmps26]
     refine Jaa b ?_
     simp -implicitDefEqProofs (disch := omega) only [go_sem]
     refine Jaa f ?_
     simp -implicitDefEqProofs (disch := omega) only [go_sem, results26]
 . have b := Jl8 t d (by simpa using h)
   rw [payV, if_neg (fun j => h j.1)]
   refine EV func26 ?_
   simp -implicitDefEqProofs (disch := omega) only [go_sem, ntmps26]
   refine Jaa b ?_
   simp -implicitDefEqProofs (disch := omega) only [go_sem, results26]
theorem JBo (p : Pt) : AV.dn (shV (some p)) = false := by
 have h : AV.dnL (p.l.map ITP) = false := JbA ITP (fun x => by simp only [AV.dn, AV.dnL, JbA _ (fun x => AV.dn.eq_2 _), L15]) p.l
 simp [AV.dn, AV.dnL, h]
abbrev TPZ (hops : List (Int × Int)) (legs : List Lg) (cks : List Ck) (tfs : List Tf) (offs : List Int) (c b : ByteArray) (ups : List ByteArray) : AV :=
 .agg [HPS hops, LGS legs, CKS cks, TFS tfs, SL offs, Str c, I 0, I 0, .v (.string ByteArray.empty), .v (.string ByteArray.empty), .v (.slice none 0 0), Str b, SLs ups]
def witL (b : ByteArray) (ups : List ByteArray) (legs : List Lg) (w : List Int) (i : Nat) : List ByteArray := (w.take i).map (witE b ups legs)
theorem Jr6 (b : ByteArray) (ups : List ByteArray) (legs : List Lg) (w : List Int) (i : Nat) (h : i <= w.length) : (witL b ups legs w i).length = i := by
 unfold witL; rw [L06, L02]; omega
theorem Jqh (b : ByteArray) (ups : List ByteArray) (legs : List Lg) (w : List Int) (i : Nat) (h : i < w.length) : witL b ups legs w (i + 1) = witL b ups legs w i ++ [witE b ups legs (gd w i)] := by
 unfold witL; rw [JyE w i h, L16]; rfl
def wiI (T : AV) (w : List Int) (W : List ByteArray) (L : List Int) (i : Nat) (E : Env) (σ : Jac) : Prop :=
 E 1 = SL w /\ E 2 = .ptr 113246240 13 0 0 /\ E 4 = .ptr 113246272 5 0 0 /\ E 5 = .ptr 113246288 2 0 0 /\ E 6 = .own 113246304 1 0 L.length /\ E 7 = I i /\
 σ 113246240 = some ⟨52, 13, [T]⟩ /\ σ 113246272 = some ⟨49, 5, [zP]⟩ /\ σ 113246288 = some ⟨90, 2, [.agg [I 0, .own 113246289 1 0 W.length]]⟩ /\
 σ 113246289 = some ⟨9, 1, W.map Str⟩ /\ σ 113246304 = some ⟨3, 1, L.map I⟩
set_option maxHeartbeats 4000000 in
theorem Jnx (hops : List (Int × Int)) (legs : List Lg) (cks : List Ck) (tfs : List Tf) (offs : List Int) (call : ByteArray) (n : Nat) (w : List Int) (hw : ∀ x ∈ w, R64 x) (hwl : w.length <= 9223372036854775807) (hn : 0 < n) (hn2 : n <= 1000) (hll : legs.length <= 1000) (hleg : ∀ i, i < legs.length -> legF (gd legs i) = true) :
 Ev prog 53 [TPZ hops legs cks tfs offs (keyS 0) JaO (upsN n), SL w] (PTP (witP JaO (upsN n) legs w)) := by
 have hsh := Ji0 n legs w; have hul := Jda n; have hl12 := Jgb w
 have d2 := JrM (keyS 0) (witR JaO (upsN n) legs w) ((min w.length 12 : Nat) : Int) (witN w (min w.length 12)) (by simp only [witR, L06, L02]; omega) (by have := hl12 (min w.length 12); omega) (fun x hx => by
  have := Jlr w _ x hx
  constructor <;> omega)
 rw [hsh] at d2
 have hWL : witR JaO (upsN n) legs w = ⟨0, witL JaO (upsN n) legs w (min w.length 12)⟩ := by
  unfold witR witL
  congr 2
  by_cases h : w.length <= 12
  . rw [L0b h, show min w.length 12 = w.length by omega, L0e]
  . rw [show min w.length 12 = 12 by omega]
 rw [hWL] at d2; have hws := Jqh JaO (upsN n) legs w; have hwl2 := Jr6 JaO (upsN n) legs w
 have hnl : ∀ i, (witN w i).length <= i := Jgb w
 have hns : ∀ i, witN w (i + 1) = witN w i ++ if Jaf ((gd w i).tdiv 128) 8 ≠ 7 then [(i : Int)] else [] := fun i => rfl
 have hE : ∀ x, witE JaO (upsN n) legs x = if Jaf x 3 = 1 then gd (upsN n) (Jaf (x.tdiv 3) (upsN n).length).toNat else if Jaf x 3 = 2 /\ legs ≠ [] then recF (gd legs (Jaf (x.tdiv 6) legs.length).toNat) (1 + Jaf (x.tdiv 3) 2) else JaO := fun x => rfl
 have hw0 : witL JaO (upsN n) legs w 0 = [] := rfl
 have hn0 : witN w 0 = [] := rfl
 have k1 := JlV; rw [<- JoW] at k1; clear hsh hWL hl12; generalize witP JaO (upsN n) legs w = PT at *; generalize witL JaO (upsN n) legs w = W at *; generalize witN w = L at *; generalize witE JaO (upsN n) legs = WE at *; generalize upsN n = ups at *; generalize keyS 0 = KEY at *
 obtain ⟨⟨pc, pn, pr, ps⟩, pl⟩ := PT
 refine EW [2, 15] func53 ?_
 simp -implicitDefEqProofs (disch := omega) only [go_sem, ntmps53]
 refine Jbo 113246288 113246289 0 1 9 1 (k := ⟨90, 2, [.agg [I 0, .v (.slice none 0 0)]]⟩) (el := .agg [I 0, .v (.slice none 0 0)]) (by simp -implicitDefEqProofs (disch := omega) only [go_sem]) (by decide) rfl rfl (by simp) (by simp -implicitDefEqProofs (disch := omega) only [go_sem]) rfl ?_
 refine JeQ Plain.mono ?_
 simp -implicitDefEqProofs (disch := omega) only [go_sem]
 refine JjE 0 (fun E σ => wiI (TPZ hops legs cks tfs offs KEY JaO ups) w (W (min w.length 12)) (L (min w.length 12)) (min w.length 12) E σ) ?_ ?_
 rotate_left
 . rintro E σ ⟨e1, e2, e4, e5, e6, e7, m2, m4, m5, mW, mL⟩
   have hWi := hwl2 (min w.length 12) (by omega)
   clear hws hns hE hwl2 hnl; generalize W (min w.length 12) = Wm at *; generalize L (min w.length 12) = Lm at *
   have q1 : Wm.take (min w.length 12) = Wm := L0b (by omega)
   have q2 : Lm.take Lm.length = Lm := L0e
   simp -implicitDefEqProofs (disch := omega) only [go_sem, e1, e2, e4, e5, e6, e7, m2, m4, m5, mW, mL]
   iterate 2
    first | refine JkG [113246289, 113246304] ?_ | refine Jaa k1 ?_
    simp -implicitDefEqProofs (disch := omega) only [go_sem, e1, e2, e4, e5, e6, e7, m2, m4, m5, mW, mL, q1, q2, hWi, L06, false_and, and_self]
   refine Jaa d2 ?_ (h4 := .inr (JBo ⟨⟨pc, pn, pr, ps⟩, pl⟩))
   simp -implicitDefEqProofs (disch := omega) only [go_sem, e1, e2, e4, e5, e6, e7, m2, m4, m5, mW, mL, q1, q2, hWi, L06, false_and, and_self, results53]
 refine Jag (fun k E σ => ∃ i : Nat, i + k = 12 /\ i <= w.length /\ wiI (TPZ hops legs cks tfs offs KEY JaO ups) w (W i) (L i) i E σ) 12 ⟨0, by omega, by omega, ?_⟩ ?_
 . simp -implicitDefEqProofs (disch := omega) only [go_sem, wiI, hw0, hn0, false_and]; try rfl
 rintro k E σ ⟨i, hk, hiw, e1, e2, e4, e5, e6, e7, m2, m4, m5, mW, mL⟩
 simp -implicitDefEqProofs (disch := omega) only [go_sem, e1, e2, e4, e5, e6, e7, m2, m4, m5, mW, mL]
 refine Jab (fun hc => ?_) (fun hc => ?_)
 rotate_left
 . obtain rfl : i = min w.length 12 := by omega
   simp -implicitDefEqProofs (disch := omega) only [go_sem, wiI, e1, e2, e4, e5, e6, e7, m2, m4, m5, mW, mL]; try rfl
 simp -implicitDefEqProofs (disch := omega) only [go_sem, e1, e2, e4, e5, e6, e7, m2, m4, m5, mW, mL]
 refine Jab (fun hc2 => ?_) (fun hc2 => ?_)
 rotate_left
 . obtain rfl : i = min w.length 12 := by omega
   simp -implicitDefEqProofs (disch := omega) only [go_sem, wiI, e1, e2, e4, e5, e6, e7, m2, m4, m5, mW, mL]; try rfl
 have hi12 : i < 12 := by omega
 have hil : i < w.length := by omega
 obtain ⟨r1, r2⟩ := hw _ (Jan w i hil)
 have hs1 := hws i hil; have hs2 := hns i; have hEi := hE (gd w i); have hWi := hwl2 i hiw; have hLi := hnl i; clear d2 hE hws hwl2 hnl hns hc hc2
 have c1 := Jav (gd w i) 3 ⟨r1, r2⟩ (by omega)
 have p1 := Jai (c := gd w i) (n := 3) (by omega)
 have rd3 := JfW (m := gd w i) (d := 3) (by omega) ⟨r1, r2⟩
 have rd6 := JfW (m := gd w i) (d := 6) (by omega) ⟨r1, r2⟩
 have rd128 := JfW (m := gd w i) (d := 128) (by omega) ⟨r1, r2⟩
 have c2 := Jav ((gd w i).tdiv 3) ups.length rd3 (by omega)
 have p2 := Jai (c := (gd w i).tdiv 3) (n := ups.length) (by omega)
 have c4 := Jav ((gd w i).tdiv 3) 2 rd3 (by omega)
 have p4 := Jai (c := (gd w i).tdiv 3) (n := 2) (by omega)
 have c5 := Jav ((gd w i).tdiv 128) 8 rd128 (by omega)
 generalize hWs : W (i + 1) = W' at *; generalize hLs : L (i + 1) = L' at *; generalize W i = Wi at *; generalize L i = Li at *
 have q1 : Wi.take Wi.length = Wi := L0e
 have q2 : Li.take Li.length = Li := L0e
 generalize WE (gd w i) = X at *; generalize hy3 : (gd w i).tdiv 3 = y3 at *; generalize hy6 : (gd w i).tdiv 6 = y6 at *; generalize hy128 : (gd w i).tdiv 128 = y128 at *; obtain ⟨u3, v3⟩ := rd3; obtain ⟨u6, v6⟩ := rd6; obtain ⟨u128, v128⟩ := rd128; generalize Jaf (gd w i) 3 = p at *; generalize Jaf y3 (ups.length : Int) = j at *; generalize Jaf y3 2 = e at *; generalize Jaf y128 8 = b at *; simp -implicitDefEqProofs (disch := omega) only [go_sem, e1, e2, e4, e5, e6, e7, m2, m4, m5, mW, mL]
 refine Jaa c1 ?_
 simp -implicitDefEqProofs (disch := omega) only [go_sem, e1, e2, e4, e5, e6, e7, m2, m4, m5, mW, mL]
 refine JbV (fun E σ => E 8 = Str X /\ wiI (TPZ hops legs cks tfs offs KEY JaO ups) w Wi Li i E σ) (fun h3 => ?_) (fun h3 => ?_) ?_
 . rw [if_pos h3] at hEi
   have hjl : j.toNat < ups.length := by omega
   simp -implicitDefEqProofs (disch := omega) only [go_sem, e1, e2, e4, e5, e6, e7, m2, m4, m5, mW, mL, hy3]
   refine Jaa c2 ?_
   simp -implicitDefEqProofs (disch := omega) only [go_sem, wiI, e1, e2, e4, e5, e6, e7, m2, m4, m5, mW, mL, hy3, hEi, false_and]; try rfl
 . rw [if_neg h3] at hEi; simp -implicitDefEqProofs (disch := omega) only [go_sem, e1, e2, e4, e5, e6, e7, m2, m4, m5, mW, mL]
   refine Jab (fun h4 => ?_) (fun h4 => ?_)
   rotate_left
   . rw [if_neg (fun h => h4 h.1)] at hEi
     simp -implicitDefEqProofs (disch := omega) only [go_sem, wiI, e1, e2, e4, e5, e6, e7, m2, m4, m5, mW, mL, hEi, false_and]; try rfl
   simp -implicitDefEqProofs (disch := omega) only [go_sem, e1, e2, e4, e5, e6, e7, m2, m4, m5, mW, mL]
   refine Jab (fun h5 => ?_) (fun h5 => ?_)
   rotate_left
   . have hnil : legs = [] := L0M (by omega)
     rw [if_neg (fun h => h.2 hnil)] at hEi
     simp -implicitDefEqProofs (disch := omega) only [go_sem, wiI, e1, e2, e4, e5, e6, e7, m2, m4, m5, mW, mL, hEi, false_and]; try rfl
   have hne : legs ≠ [] := fun h => by rw [h] at h5; exact absurd h5 (by decide)
   rw [if_pos ⟨h4, hne⟩] at hEi
   have c3 := Jav y6 legs.length ⟨u6, v6⟩ (by omega)
   have p3 := Jai (c := y6) (n := legs.length) (by omega)
   generalize Jaf y6 (legs.length : Int) = v at *
   have hvl : v.toNat < legs.length := by omega
   have g1 := hleg v.toNat hvl; have c6 := Jk5 (gd legs v.toNat) (1 + e)
   have hrv : recV (gd legs v.toNat) (1 + e) = .tup [Str (recF (gd legs v.toNat) (1 + e)), I 0] := if_pos ⟨g1, by omega⟩
   rw [hrv] at c6; clear hrv; generalize recF (gd legs v.toNat) (1 + e) = RF at *; generalize hlv : gd legs v.toNat = l at *; obtain ⟨lf, lt, lg, lk⟩ := l; simp -implicitDefEqProofs (disch := omega) only [go_sem, e1, e2, e4, e5, e6, e7, m2, m4, m5, mW, mL, hy3, hy6]
   iterate 2
    first | refine Jaa c3 ?_ | refine Jaa c4 ?_
    simp -implicitDefEqProofs (disch := omega) only [go_sem, e1, e2, e4, e5, e6, e7, m2, m4, m5, mW, mL, hy3, hy6, hlv]
   refine Jaa c6 ?_
   simp -implicitDefEqProofs (disch := omega) only [go_sem, wiI, e1, e2, e4, e5, e6, e7, m2, m4, m5, mW, mL, hy3, hy6, hEi, hlv, false_and]; try rfl
 clear e1 e2 e4 e5 e6 e7 m2 m4 m5 mW mL E σ hEi
 rintro E σ ⟨e8, e1, e2, e4, e5, e6, e7, m2, m4, m5, mW, mL⟩
 simp -implicitDefEqProofs (disch := omega) only [go_sem, e1, e2, e4, e5, e6, e7, e8, m2, m4, m5, mW, mL, q1, hWi, hy128, false_and]
 refine Jaa c5 ?_
 simp -implicitDefEqProofs (disch := omega) only [go_sem, e1, e2, e4, e5, e6, e7, e8, m2, m4, m5, mW, mL, hy128, q1, hWi, false_and]
 refine Jab (fun h6 => ?_) (fun h6 => ?_)
 . rw [if_pos h6] at hs2; generalize hQ : JnJ _ k = Q; simp -implicitDefEqProofs (disch := omega) only [go_sem, e1, e2, e4, e5, e6, e7, e8, m2, m4, m5, mW, mL, q1, q2, hWi, false_and]; rw [<- hQ]; clear hQ
   refine Jad (12 - (i + 1)) (by omega) ⟨i + 1, by omega, by omega, ?_⟩
   rw [hWs, hLs, hs1, hs2]; simp -implicitDefEqProofs (disch := omega) only [go_sem, wiI, e1, e2, e4, e5, e6, e7, e8, m2, m4, m5, mW, mL, q1, q2, hWi, L07, L0h, L0t, false_and]; try simp
 . rw [if_neg h6, L0J] at hs2; simp -implicitDefEqProofs (disch := omega) only [go_sem, e1, e2, e4, e5, e6, e7, e8, m2, m4, m5, mW, mL, q1, q2, hWi, false_and]
   refine Jad (12 - (i + 1)) (by omega) ⟨i + 1, by omega, by omega, ?_⟩
   rw [hWs, hLs, hs1, hs2]; simp -implicitDefEqProofs (disch := omega) only [go_sem, wiI, e1, e2, e4, e5, e6, e7, e8, m2, m4, m5, mW, mL, q1, q2, hWi, L07, L0h, L0t, false_and]; try simp
@[go_sem] theorem Ju0 (l : List (Int × Int)) (a b : Int) : l.map HPP ++ [.agg [.v (.int .i64 a), .v (.int .i64 b)]] = (l ++ [(a, b)]).map HPP := by simp
@[go_sem] theorem Ju1 (l : List Lg) (a b c d e f : Int) : l.map LGP ++ [.agg [.v (.int .i64 a), .v (.int .i64 b), .v (.int .i64 c), .v (.int .i64 d), .v (.int .i64 e), .v (.int .i64 f)]] = (l ++ [(⟨a, b, ⟨c, d⟩, ⟨e, f⟩⟩ : Lg)]).map LGP := by simp
@[go_sem] theorem JuZ (l : List Ck) (c : Ck) : l.map CKP ++ [CKP c] = (l ++ [c]).map CKP := by simp
@[go_sem] theorem JwR (l : List Tf) (c : Tf) : l.map TF ++ [TF c] = (l ++ [c]).map TF := by simp
theorem dnv (x : Value) : AV.dn (.v x) = false := AV.dn.eq_2 x
theorem Jxd (l : List Int) : AV.dnL (l.map I) = false := JbA I (fun x => dnv _) l
theorem Jom (c : Cr) : (CRP c).dn = false := by
 simp only [AV.dn, AV.dnL, Jxd, JbA QT (fun q => by simp only [AV.dn, AV.dnL, L15]) c.at_, L15]
theorem Jct (c : Ck) : (CKP c).dn = false := by
 simp only [AV.dn, AV.dnL, JbA RDP (fun q => by simp only [AV.dn, AV.dnL, L15]) c.r, L15]
theorem Jxe (c : Tf) : (TF c).dn = false := by
 simp only [AV.dn, AV.dnL, JbA TP (fun q => by simp only [AV.dn, AV.dnL, L15]) c.l, L15]
structure Nm.ok (x : Nm) : Prop where
 hops : ∀ h ∈ x.hops, R64 h.1 /\ R64 h.2
 hopsL : x.hops.length <= 9223372036854775807
 legs : ∀ q ∈ x.legs, T3ok q
 legsL : x.legs.length <= 9223372036854775807
 crs : ∀ c ∈ x.crs, c.ok
 crsL : x.crs.length <= 9223372036854775807
 bases : ∀ n ∈ x.bases, R64 n
 basesL : x.bases.length <= 9223372036854775807
 rates : ∀ q ∈ x.rates, Q4ok q
 ratesL : x.rates.length <= 9223372036854775807
 offs : ∀ n ∈ x.offs, R64 n
 offsL : x.offs.length <= 9223372036854775807
 wit : ∀ n ∈ x.wit, R64 n
 witL : x.wit.length <= 9223372036854775807
theorem Jkz {x : Nm} (h : x.ok) (c : Nat) : (crsF x c).ok := by
 unfold crsF
 split
 . exact ⟨⟨by decide, by decide⟩, ⟨by decide, by decide⟩, fun r f => (by cases f), L13 _, fun q d => (by cases d), L13 _⟩
 . rename_i b
   exact h.crs _ (Jan _ _ (L1h _ (L19.2 b)))
theorem Jpc {l : List Int} (h : ∀ n ∈ l, R64 n) (i : Nat) : R64 (numF l i) := by
 unfold numF
 split
 . exact ⟨by decide, by decide⟩
 . rename_i b
   exact h _ (Jan _ _ (L1h _ (L19.2 b)))
def ckN (x : Nm) (i : Nat) : List Ck := (List.range i).map fun c => (crsF x c).clk
def tfN (x : Nm) (i : Nat) : List Tf := (List.range i).map fun c => tfQ (numF x.bases c) (x.rates.take (c % 4))
def ofN (x : Nm) (i : Nat) : List Int := (List.range i).map (offF x)
def lgN (x : Nm) (b : List (Int × Int)) (i : Nat) : List Lg := (List.range i).map (legM x b)
theorem JqK (x : Nm) (i : Nat) : ckN x (i + 1) = ckN x i ++ [(crsF x i).clk] := by simp [ckN, L1m]
theorem JrX (x : Nm) (i : Nat) : tfN x (i + 1) = tfN x i ++ [tfQ (numF x.bases i) (x.rates.take (i % 4))] := by simp [tfN, L1m]
theorem Jrq (x : Nm) (i : Nat) : ofN x (i + 1) = ofN x i ++ [offF x i] := by simp [ofN, L1m]
theorem Jre (x : Nm) (b : List (Int × Int)) (i : Nat) : lgN x b (i + 1) = lgN x b i ++ [legM x b i] := by simp [lgN, L1m]
theorem Jqc (i : Nat) : upsN (i + 1) = upsN i ++ [updS i] := by simp [upsN, L1m]
theorem Jtn (x : Nm) (i : Nat) : (ckN x i).length = i := by simp [ckN]
theorem JuK (x : Nm) (i : Nat) : (tfN x i).length = i := by simp [tfN]
theorem Jul (x : Nm) (i : Nat) : (ofN x i).length = i := by simp [ofN]
theorem Jo3 (x : Nm) (b : List (Int × Int)) (i : Nat) : (lgN x b i).length = i := by simp [lgN]
abbrev mdT (b : AV) (G : List Lg) (C : List Ck) (T : List Tf) (O : List Int) (U : List ByteArray) : AV :=
 .agg [b, .own 29360178 6 0 G.length, .own 29360179 2 0 C.length, .own 29360180 2 0 T.length, .own 29360181 1 0 O.length, Str (keyS 0), I 0, I 0, .v (.string ByteArray.empty), .v (.string ByteArray.empty), .v (.slice none 0 0), Str JaO, .own 29360182 1 0 U.length]
abbrev zT : AV := .agg [.v (.slice none 0 0), .v (.slice none 0 0), .v (.slice none 0 0), .v (.slice none 0 0), .v (.slice none 0 0), .v (.string ByteArray.empty), I 0, I 0, .v (.string ByteArray.empty), .v (.string ByteArray.empty), .v (.slice none 0 0), .v (.string ByteArray.empty), .v (.slice none 0 0)]
def mdI (x : Nm) (b : AV) (G : List Lg) (C : List Ck) (T : List Tf) (O : List Int) (U : List ByteArray) (E : Env) (σ : Jac) : Prop :=
 E 1 = .ptr 29360144 7 0 0 /\ E 2 = .ptr 29360160 13 0 0 /\ E 3 = .ptr 29360176 13 0 0 /\ σ 29360144 = some ⟨28, 7, [NMP x]⟩ /\ σ 29360160 = some ⟨52, 13, [zT]⟩ /\
 σ 29360176 = some ⟨52, 13, [mdT b G C T O U]⟩ /\ σ 29360178 = some ⟨33, 6, G.map LGP⟩ /\ σ 29360179 = some ⟨58, 2, C.map CKP⟩ /\ σ 29360180 = some ⟨96, 2, T.map TF⟩ /\
 σ 29360181 = some ⟨3, 1, O.map I⟩ /\ σ 29360182 = some ⟨9, 1, U.map Str⟩
set_option maxHeartbeats 16000000 in
theorem JgL (x : Nm) (hx : x.ok) : Ev prog 13 [NMP x] (TPP (Jaw x)) := by
 have hfin : TPP (Jaw x) = .agg [HPS (Jay x.hops), LGS (lgN x (Jay x.hops) ((Jay x.hops).length - 1)), CKS (ckN x 8), TFS (tfN x 8), SL (ofN x 8), Str (keyS 0), I (Jaw x).part.h.c, I (Jaw x).part.h.n, Str (Jaw x).part.h.r, Str (Jaw x).part.h.s, ITS (Jaw x).part.l, Str JaO, SLs (upsN ((JcA x.hops).2 + 2).toNat)] := rfl
 have hHl := Jdp x.hops; have hHi := JdI x.hops; have hLi := JlW x.hops; have hlen1 := Jo3 x (Jay x.hops) ((Jay x.hops).length - 1)
 have cw := Jnx (Jay x.hops) (lgN x (Jay x.hops) ((Jay x.hops).length - 1)) (ckN x 8) (tfN x 8) (ofN x 8) JaO ((JcA x.hops).2 + 2).toNat x.wit hx.wit hx.witL (by omega) (by omega) (by omega) (fun i hi => by
  rw [hlen1] at hi
  have : gd (lgN x (Jay x.hops) ((Jay x.hops).length - 1)) i = legM x (Jay x.hops) i := Jl1 x (Jay x.hops) hi
  rw [this]; exact Jo0 x (by omega))
 have hwp : witP JaO (upsN ((JcA x.hops).2 + 2).toNat) (lgN x (Jay x.hops) ((Jay x.hops).length - 1)) x.wit = (Jaw x).part := rfl
 rw [hwp] at cw; rw [hfin]; clear hwp hfin; generalize (Jaw x).part = PT at *
 obtain ⟨⟨pc, pn, pr, ps⟩, pl⟩ := PT
 simp only at *
 have k1 := JlV; rw [<- JoW] at k1
 refine EW [2, 17, 18, 37] func13 ?_
 simp -implicitDefEqProofs (disch := omega) only [go_sem, ntmps13]
 refine Jaa k1 ?_
 simp -implicitDefEqProofs (disch := omega) only [go_sem]
 refine Jbo 29360176 29360177 0 0 88 2 (k := ⟨52, 13, [.agg [.v (.slice none 0 0), .v (.slice none 0 0), .v (.slice none 0 0), .v (.slice none 0 0), .v (.slice none 0 0), Str (keyS 0), I 0, I 0, .v (.string ByteArray.empty), .v (.string ByteArray.empty), .v (.slice none 0 0), Str JaO, .v (.slice none 0 0)]]⟩) (el := .agg [.v (.slice none 0 0), .v (.slice none 0 0), .v (.slice none 0 0), .v (.slice none 0 0), .v (.slice none 0 0), Str (keyS 0), I 0, I 0, .v (.string ByteArray.empty), .v (.string ByteArray.empty), .v (.slice none 0 0), Str JaO, .v (.slice none 0 0)]) (by simp -implicitDefEqProofs (disch := omega) only [go_sem, false_and]; try rfl) (by decide) rfl rfl (by simp) (by simp -implicitDefEqProofs (disch := omega) only [go_sem]) rfl ?_
 refine Jbo 29360176 29360178 0 1 33 6 (k := ⟨52, 13, [.agg [.own 29360177 2 0 0, .v (.slice none 0 0), .v (.slice none 0 0), .v (.slice none 0 0), .v (.slice none 0 0), Str (keyS 0), I 0, I 0, .v (.string ByteArray.empty), .v (.string ByteArray.empty), .v (.slice none 0 0), Str JaO, .v (.slice none 0 0)]]⟩) (el := .agg [.own 29360177 2 0 0, .v (.slice none 0 0), .v (.slice none 0 0), .v (.slice none 0 0), .v (.slice none 0 0), Str (keyS 0), I 0, I 0, .v (.string ByteArray.empty), .v (.string ByteArray.empty), .v (.slice none 0 0), Str JaO, .v (.slice none 0 0)]) (by simp -implicitDefEqProofs (disch := omega) only [go_sem, false_and]; try rfl) (by decide) rfl rfl (by simp) (by simp -implicitDefEqProofs (disch := omega) only [go_sem]) rfl ?_
 refine Jbo 29360176 29360179 0 2 58 2 (k := ⟨52, 13, [.agg [.own 29360177 2 0 0, .own 29360178 6 0 0, .v (.slice none 0 0), .v (.slice none 0 0), .v (.slice none 0 0), Str (keyS 0), I 0, I 0, .v (.string ByteArray.empty), .v (.string ByteArray.empty), .v (.slice none 0 0), Str JaO, .v (.slice none 0 0)]]⟩) (el := .agg [.own 29360177 2 0 0, .own 29360178 6 0 0, .v (.slice none 0 0), .v (.slice none 0 0), .v (.slice none 0 0), Str (keyS 0), I 0, I 0, .v (.string ByteArray.empty), .v (.string ByteArray.empty), .v (.slice none 0 0), Str JaO, .v (.slice none 0 0)]) (by simp -implicitDefEqProofs (disch := omega) only [go_sem, false_and]; try rfl) (by decide) rfl rfl (by simp) (by simp -implicitDefEqProofs (disch := omega) only [go_sem]) rfl ?_
 refine Jbo 29360176 29360180 0 3 96 2 (k := ⟨52, 13, [.agg [.own 29360177 2 0 0, .own 29360178 6 0 0, .own 29360179 2 0 0, .v (.slice none 0 0), .v (.slice none 0 0), Str (keyS 0), I 0, I 0, .v (.string ByteArray.empty), .v (.string ByteArray.empty), .v (.slice none 0 0), Str JaO, .v (.slice none 0 0)]]⟩) (el := .agg [.own 29360177 2 0 0, .own 29360178 6 0 0, .own 29360179 2 0 0, .v (.slice none 0 0), .v (.slice none 0 0), Str (keyS 0), I 0, I 0, .v (.string ByteArray.empty), .v (.string ByteArray.empty), .v (.slice none 0 0), Str JaO, .v (.slice none 0 0)]) (by simp -implicitDefEqProofs (disch := omega) only [go_sem, false_and]; try rfl) (by decide) rfl rfl (by simp) (by simp -implicitDefEqProofs (disch := omega) only [go_sem]) rfl ?_
 refine Jbo 29360176 29360181 0 4 3 1 (k := ⟨52, 13, [.agg [.own 29360177 2 0 0, .own 29360178 6 0 0, .own 29360179 2 0 0, .own 29360180 2 0 0, .v (.slice none 0 0), Str (keyS 0), I 0, I 0, .v (.string ByteArray.empty), .v (.string ByteArray.empty), .v (.slice none 0 0), Str JaO, .v (.slice none 0 0)]]⟩) (el := .agg [.own 29360177 2 0 0, .own 29360178 6 0 0, .own 29360179 2 0 0, .own 29360180 2 0 0, .v (.slice none 0 0), Str (keyS 0), I 0, I 0, .v (.string ByteArray.empty), .v (.string ByteArray.empty), .v (.slice none 0 0), Str JaO, .v (.slice none 0 0)]) (by simp -implicitDefEqProofs (disch := omega) only [go_sem, false_and]; try rfl) (by decide) rfl rfl (by simp) (by simp -implicitDefEqProofs (disch := omega) only [go_sem]) rfl ?_
 refine Jbo 29360176 29360182 0 12 9 1 (k := ⟨52, 13, [.agg [.own 29360177 2 0 0, .own 29360178 6 0 0, .own 29360179 2 0 0, .own 29360180 2 0 0, .own 29360181 1 0 0, Str (keyS 0), I 0, I 0, .v (.string ByteArray.empty), .v (.string ByteArray.empty), .v (.slice none 0 0), Str JaO, .v (.slice none 0 0)]]⟩) (el := .agg [.own 29360177 2 0 0, .own 29360178 6 0 0, .own 29360179 2 0 0, .own 29360180 2 0 0, .own 29360181 1 0 0, Str (keyS 0), I 0, I 0, .v (.string ByteArray.empty), .v (.string ByteArray.empty), .v (.slice none 0 0), Str JaO, .v (.slice none 0 0)]) (by simp -implicitDefEqProofs (disch := omega) only [go_sem, false_and]; try rfl) (by decide) rfl rfl (by simp) (by simp -implicitDefEqProofs (disch := omega) only [go_sem]) rfl ?_
 refine JeQ Plain.mono ?_
 simp -implicitDefEqProofs (disch := omega) only [go_sem]
 -- clocks, tariffs, offsets
 refine Jag (fun k E σ => ∃ i : Nat, i + k = 8 /\ E 4 = I i /\ mdI x (.own 29360177 2 0 0) [] (ckN x i) (tfN x i) (ofN x i) [] E σ /\ σ 29360177 = some ⟨88, 2, []⟩) 8 ⟨0, by omega, ?_⟩ ?_
 . simp -implicitDefEqProofs (disch := omega) only [go_sem, mdI, ckN, tfN, ofN, false_and, and_self]
   try ((repeat' apply And.intro) <;> rfl)
 rintro k E σ ⟨i, hk, e4, ⟨e1, e2, e3, m1, m2, m3, mg, mc, mt, mo, mu⟩, mh⟩
 simp -implicitDefEqProofs (disch := omega) only [go_sem, e4, e1, e2, e3, m1, m2, m3, mg, mc, mt, mo, mu, mh]
 refine Jab (fun hc => ?_) (fun hc => ?_)
 . have hck := Jtn x i; have htf := JuK x i; have hof := Jul x i
   have b1 := Jgu x i hx.crsL (by omega)
   have b2 := JmK (crsF x i) (Jkz hx i)
   have b3 := JjO x.bases i hx.basesL (by omega)
   have r3 := Jpc hx.bases i
   have ht4 : (i : Int).tmod 4 = ((i % 4 : Nat) : Int) := by rw [L11 (by omega)]; omega
   have hmin : (min (x.rates.length : Int) ((i % 4 : Nat) : Int)).toNat = min x.rates.length (i % 4) := by omega
   have htk : x.rates.take (min x.rates.length (i % 4)) = x.rates.take (i % 4) := by
    by_cases h : i % 4 <= x.rates.length
    . rw [Nat.min_eq_right h]
    . rw [L0P (by omega), L0e, L0b (by omega)]
   have b4 := Jp5 (numF x.bases i) (x.rates.take (i % 4)) r3 (fun q hq => hx.rates q (L0G hq)) (by rw [L02]; have := hx.ratesL; omega)
   have b5 := JjO x.offs i hx.offsL (by omega)
   have r5 := Jpc hx.offs i
   have b6 := Jav (numF x.offs i) 100801 r5 (by omega)
   have p6 := Jai (c := numF x.offs i) (n := 100801) (by omega)
   have s1 := JqK x i; have s2 := JrX x i; have s3 := Jrq x i
   have hoff : offF x i = Jaf (numF x.offs i) 100801 - 50400 := rfl
   rw [hoff] at s3; generalize (crsF x i).clk = K at *; generalize tfQ (numF x.bases i) (x.rates.take (i % 4)) = TQ at *; generalize Jaf (numF x.offs i) 100801 = po at *; generalize hC' : ckN x (i + 1) = C' at *; generalize hT' : tfN x (i + 1) = T' at *; generalize hO' : ofN x (i + 1) = O' at *; generalize ckN x i = C at *; generalize tfN x i = T at *; generalize ofN x i = O at *
   have q1 : C.take i = C := L0b (by omega)
   have q2 : T.take i = T := L0b (by omega)
   have q3 : O.take i = O := L0b (by omega)
   obtain ⟨kd, kr⟩ := K; obtain ⟨tl, tb⟩ := TQ; simp -implicitDefEqProofs (disch := omega) only [go_sem, e4, e1, e2, e3, m1, m2, m3, mg, mc, mt, mo, mu, mh, false_and, and_self]
   refine Jaa b1 ?_ (h4 := by first | exact .inl rfl | exact .inr (Jom _))
   simp -implicitDefEqProofs (disch := omega) only [go_sem, e4, e1, e2, e3, m1, m2, m3, mg, mc, mt, mo, mu, mh, false_and, and_self]
   refine Jaa b2 ?_ (h4 := by first | exact .inl rfl | exact .inr (Jct _))
   simp -implicitDefEqProofs (disch := omega) only [go_sem, e4, e1, e2, e3, m1, m2, m3, mg, mc, mt, mo, mu, mh, hck, htf, hof, q1, q2, q3, false_and, and_self]
   iterate 4
    first | refine Jaa b3 ?_ | refine Jaa b4 ?_ (h4 := by first | exact .inl rfl | exact .inr (Jxe _)) | refine Jaa b5 ?_ | refine Jaa b6 ?_
    simp -implicitDefEqProofs (disch := omega) only [go_sem, e4, e1, e2, e3, m1, m2, m3, mg, mc, mt, mo, mu, mh, hck, htf, hof, q1, q2, q3, ht4, hmin, L0H, htk, false_and, and_self]
   refine Jad (8 - (i + 1)) (by omega) ⟨i + 1, by omega, ?_⟩
   rw [hC', hT', hO', s1, s2, s3]; simp -implicitDefEqProofs (disch := omega) only [go_sem, mdI, e4, e1, e2, e3, m1, m2, m3, mg, mc, mt, mo, mu, mh, hck, htf, hof, q1, q2, q3, L07, L0h, L0t, false_and, and_self]
   try simp [hck, htf, hof]
 obtain rfl : i = 8 := by omega
 generalize hC8 : ckN x 8 = C8 at *; generalize hT8 : tfN x 8 = T8 at *; generalize hO8 : ofN x 8 = O8 at *; clear hC8 hT8 hO8 hc; simp -implicitDefEqProofs (disch := omega) only [go_sem, e4, e1, e2, e3, m1, m2, m3, mg, mc, mt, mo, mu, mh, false_and, and_self]
 -- hops
 have hn0 : hopN x.hops 0 = [] := rfl
 refine JjE 2 (fun E σ => E 5 = .ptr 29360208 2 0 0 /\ mdI x (.own 29360177 2 0 (min x.hops.length 6)) [] C8 T8 O8 [] E σ /\ σ 29360177 = some ⟨88, 2, (hopN x.hops (min x.hops.length 6)).map HPP⟩ /\ σ 29360208 = some ⟨88, 2, [HPP (gd (hopN x.hops (min x.hops.length 6)) (min x.hops.length 6 - 1))]⟩) ?_ ?_
 . refine Jag (fun k E σ => ∃ i : Nat, i + k = 6 /\ i <= x.hops.length /\ E 6 = I i /\ E 5 = .ptr 29360208 2 0 0 /\ mdI x (.own 29360177 2 0 i) [] C8 T8 O8 [] E σ /\ σ 29360177 = some ⟨88, 2, (hopN x.hops i).map HPP⟩ /\ σ 29360208 = some ⟨88, 2, [HPP (gd (hopN x.hops i) (i - 1))]⟩) 6 ⟨0, by omega, by omega, ?_⟩ ?_
   . simp -implicitDefEqProofs (disch := omega) only [go_sem, mdI, hn0, e1, e2, e3, m1, m2, m3, mg, mc, mt, mo, mu, mh, false_and, and_self]
     try ((repeat' apply And.intro) <;> rfl)
   clear e1 e2 e3 e4 m1 m2 m3 mg mc mt mo mu mh E σ
   rintro k E σ ⟨i, hk, hil, e6, e5, ⟨e1, e2, e3, m1, m2, m3, mg, mc, mt, mo, mu⟩, mh, m5⟩
   simp -implicitDefEqProofs (disch := omega) only [go_sem, e5, e6, e1, e2, e3, m1, m2, m3, mg, mc, mt, mo, mu, mh, m5]
   refine Jab (fun hc => ?_) (fun hc => ?_)
   rotate_left
   . obtain rfl : i = min x.hops.length 6 := by omega
     simp -implicitDefEqProofs (disch := omega) only [go_sem, mdI, e5, e6, e1, e2, e3, m1, m2, m3, mg, mc, mt, mo, mu, mh, m5, false_and, and_self]; try rfl
   simp -implicitDefEqProofs (disch := omega) only [go_sem, e5, e6, e1, e2, e3, m1, m2, m3, mg, mc, mt, mo, mu, mh, m5]
   refine Jab (fun hc2 => ?_) (fun hc2 => ?_)
   rotate_left
   . obtain rfl : i = min x.hops.length 6 := by omega
     simp -implicitDefEqProofs (disch := omega) only [go_sem, mdI, e5, e6, e1, e2, e3, m1, m2, m3, mg, mc, mt, mo, mu, mh, m5, false_and, and_self]; try rfl
   have hil2 : i < x.hops.length := by omega
   have hnl := JaX x.hops i
   obtain ⟨r1, r2⟩ := hx.hops _ (Jan x.hops i hil2)
   have c1 := Jav (gd x.hops i).1 8 r1 (by omega)
   have c2 := Jav (gd x.hops i).2 4 r2 (by omega)
   have c3 := Jav (gd x.hops i).1 7 r1 (by omega)
   have p1 := Jai (c := (gd x.hops i).1) (n := 8) (by omega)
   have p2 := Jai (c := (gd x.hops i).2) (n := 4) (by omega)
   have p3 := Jai (c := (gd x.hops i).1) (n := 7) (by omega)
   have hla : (0 <= (gd (hopN x.hops i) (i - 1)).1 /\ (gd (hopN x.hops i) (i - 1)).1 <= 7) /\ 0 <= (gd (hopN x.hops i) (i - 1)).2 /\ (gd (hopN x.hops i) (i - 1)).2 <= 20 := by
    by_cases h0 : i = 0
    . subst h0; rw [hn0, JsB]; decide
    . exact JgC x.hops i _ (Jan _ _ (by rw [hnl]; omega))
   have hs : hopN x.hops (i + 1) = hopN x.hops i ++ [hopF (gd x.hops i) (gd (hopN x.hops i) (i - 1)) i] := rfl
   have hF : hopF (gd x.hops i) (gd (hopN x.hops i) (i - 1)) i = (if i = 0 then Jaf (gd x.hops i).1 8 else ((gd (hopN x.hops i) (i - 1)).1 + 1 + Jaf (gd x.hops i).1 7).tmod 8, min ((gd (hopN x.hops i) (i - 1)).2 + Jaf (gd x.hops i).2 4) 20) := rfl
   have hg : gd (hopN x.hops (i + 1)) (i + 1 - 1) = hopF (gd x.hops i) (gd (hopN x.hops i) (i - 1)) i := by
    rw [hs, L0W, JaT _ _ _ (by omega), hnl, L1l, JaJ]
   generalize hopF (gd x.hops i) (gd (hopN x.hops i) (i - 1)) i = h at *; generalize hH' : hopN x.hops (i + 1) = H' at *; generalize gd (hopN x.hops i) (i - 1) = la at *; generalize hopN x.hops i = H at *; obtain ⟨la1, la2⟩ := la; obtain ⟨h1, h2⟩ := h; simp only [Prod.mk.injEq] at hF hla; obtain ⟨hF1, hF2⟩ := hF; generalize Jaf (gd x.hops i).1 8 = w1 at *; generalize Jaf (gd x.hops i).2 4 = w2 at *; generalize Jaf (gd x.hops i).1 7 = w3 at *
   have qt : H.take i = H := L0b (by omega)
   simp -implicitDefEqProofs (disch := omega) only [go_sem, e5, e6, e1, e2, e3, m1, m2, m3, mg, mc, mt, mo, mu, mh, m5, false_and, and_self]
   iterate 2
    first | refine Jaa c1 ?_ | refine Jaa c2 ?_
    simp -implicitDefEqProofs (disch := omega) only [go_sem, e5, e6, e1, e2, e3, m1, m2, m3, mg, mc, mt, mo, mu, mh, m5, false_and, and_self]
   refine JbV (fun E σ => E 6 = I i /\ E 5 = .ptr 29360208 2 0 0 /\ E 7 = .ptr 29360240 2 0 0 /\ mdI x (.own 29360177 2 0 i) [] C8 T8 O8 [] E σ /\ σ 29360177 = some ⟨88, 2, H.map HPP⟩ /\ σ 29360208 = some ⟨88, 2, [HPP (la1, la2)]⟩ /\ σ 29360240 = some ⟨88, 2, [HPP (h1, h2)]⟩) (fun h0 => ?_) (fun h0 => ?_) ?_
   . rw [if_neg (by omega)] at hF1
     simp -implicitDefEqProofs (disch := omega) only [go_sem, e5, e6, e1, e2, e3, m1, m2, m3, mg, mc, mt, mo, mu, mh, m5, false_and, and_self]
     refine Jaa c3 ?_
     simp -implicitDefEqProofs (disch := omega) only [go_sem, mdI, e5, e6, e1, e2, e3, m1, m2, m3, mg, mc, mt, mo, mu, mh, m5, hF1, hF2, false_and, and_self]; try rfl
   . rw [if_pos (by omega)] at hF1
     simp -implicitDefEqProofs (disch := omega) only [go_sem, mdI, e5, e6, e1, e2, e3, m1, m2, m3, mg, mc, mt, mo, mu, mh, m5, hF1, hF2, false_and, and_self]; try rfl
   clear e5 e6 e1 e2 e3 m1 m2 m3 mg mc mt mo mu mh m5 E σ
   rintro E σ ⟨e6, e5, e7, ⟨e1, e2, e3, m1, m2, m3, mg, mc, mt, mo, mu⟩, mh, m5, m7⟩
   simp -implicitDefEqProofs (disch := omega) only [go_sem, e5, e6, e7, e1, e2, e3, m1, m2, m3, mg, mc, mt, mo, mu, mh, m5, m7, hnl, qt, false_and, and_self]
   refine Jad (6 - (i + 1)) (by omega) ⟨i + 1, by omega, by omega, ?_⟩
   rw [hH', hg, hs]; simp -implicitDefEqProofs (disch := omega) only [go_sem, mdI, e5, e6, e7, e1, e2, e3, m1, m2, m3, mg, mc, mt, mo, mu, mh, m5, m7, hnl, qt, L07, L0h, L0t, false_and, and_self]; try simp
 clear e1 e2 e3 e4 m1 m2 m3 mg mc mt mo mu mh E σ
 have hHm : (hopN x.hops (min x.hops.length 6)).length = min x.hops.length 6 := JaX _ _
 have hHF : Jay x.hops = if x.hops = [] then [(0, 0)] else hopN x.hops (min x.hops.length 6) := rfl
 have hLH : gd (hopN x.hops (min x.hops.length 6)) (min x.hops.length 6 - 1) = JcA x.hops := by
  unfold JcA
  by_cases h0 : x.hops = []
  . rw [hHF, if_pos h0, h0]; rfl
  . rw [hHF, if_neg h0, hHm]
 rw [hLH]; clear hLH
 rintro E σ ⟨e5, ⟨e1, e2, e3, m1, m2, m3, mg, mc, mt, mo, mu⟩, mh, m5⟩
 simp -implicitDefEqProofs (disch := omega) only [go_sem, e5, e1, e2, e3, m1, m2, m3, mg, mc, mt, mo, mu, mh, m5]
 have qHm : (hopN x.hops (min x.hops.length 6)).take (min x.hops.length 6) = hopN x.hops (min x.hops.length 6) := L0b (by omega)
 refine Jap Plain.mono [29360177] ?_
 simp -implicitDefEqProofs (disch := omega) only [go_sem, e5, e1, e2, e3, m1, m2, m3, mg, mc, mt, mo, mu, mh, m5, qHm, hHm, L06, false_and, and_self]
 refine JbV (fun E σ => E 5 = .ptr 29360208 2 0 0 /\ mdI x (HPS (Jay x.hops)) [] C8 T8 O8 [] E σ /\ σ 29360208 = some ⟨88, 2, [HPP (JcA x.hops)]⟩) (fun h0 => ?_) (fun h0 => ?_) ?_
 . have hnil : x.hops = [] := L0M (by omega)
   rw [if_pos hnil] at hHF; rw [hHF]; simp -implicitDefEqProofs (disch := omega) only [go_sem, e5, e1, e2, e3, m1, m2, m3, mg, mc, mt, mo, mu, mh, m5, qHm, hHm, L06, false_and, and_self]
   refine JkH [29362000] ?_
   refine JeQ Plain.mono ?_
   simp -implicitDefEqProofs (disch := omega) only [go_sem, mdI, e5, e1, e2, e3, m1, m2, m3, mg, mc, mt, mo, mu, mh, m5, qHm, hHm, L06, false_and, and_self]; try rfl
 . have hnil : x.hops ≠ [] := fun h => by rw [h] at h0; exact h0 rfl
   rw [if_neg hnil] at hHF; rw [hHF]; simp -implicitDefEqProofs (disch := omega) only [go_sem, mdI, e5, e1, e2, e3, m1, m2, m3, mg, mc, mt, mo, mu, mh, m5, qHm, hHm, L06, false_and, and_self]; try rfl
 clear hHF hHm qHm e5 e1 e2 e3 m1 m2 m3 mg mc mt mo mu mh m5 E σ; generalize Jay x.hops = HS at *
 rintro E σ ⟨e5, ⟨e1, e2, e3, m1, m2, m3, mg, mc, mt, mo, mu⟩, m5⟩
 simp -implicitDefEqProofs (disch := omega) only [go_sem, e5, e1, e2, e3, m1, m2, m3, mg, mc, mt, mo, mu, m5]
 -- updates
 have hu0 : upsN 0 = [] := rfl
 obtain ⟨n, hn⟩ : ∃ n : Nat, ((JcA x.hops).2 + 2).toNat = n := ⟨_, rfl⟩
 rw [hn] at cw ⊢; generalize JcA x.hops = la at *; obtain ⟨la1, la2⟩ := la
 simp only at *
 refine Jag (fun k E σ => ∃ i : Nat, i + k = n /\ E 8 = I i /\ E 5 = .ptr 29360208 2 0 0 /\ mdI x (HPS HS) [] C8 T8 O8 (upsN i) E σ /\ σ 29360208 = some ⟨88, 2, [HPP (la1, la2)]⟩) n ⟨0, by omega, ?_⟩ ?_
 . simp -implicitDefEqProofs (disch := omega) only [go_sem, mdI, hu0, e5, e1, e2, e3, m1, m2, m3, mg, mc, mt, mo, mu, m5, false_and, and_self]
   try ((repeat' apply And.intro) <;> rfl)
 clear e5 e1 e2 e3 m1 m2 m3 mg mc mt mo mu m5 E σ
 rintro k E σ ⟨i, hk, e8, e5, ⟨e1, e2, e3, m1, m2, m3, mg, mc, mt, mo, mu⟩, m5⟩
 simp -implicitDefEqProofs (disch := omega) only [go_sem, e5, e8, e1, e2, e3, m1, m2, m3, mg, mc, mt, mo, mu, m5]
 refine Jab (fun hc => ?_) (fun hc => ?_)
 . have b1 := Jqa i (by omega)
   have s1 := Jqc i; have ul := Jda i; generalize updS i = US at *; generalize hU' : upsN (i + 1) = U' at *; generalize upsN i = U at *
   have qt : U.take i = U := L0b (by omega)
   simp -implicitDefEqProofs (disch := omega) only [go_sem, e5, e8, e1, e2, e3, m1, m2, m3, mg, mc, mt, mo, mu, m5, false_and, and_self]
   refine Jaa b1 ?_
   simp -implicitDefEqProofs (disch := omega) only [go_sem, e5, e8, e1, e2, e3, m1, m2, m3, mg, mc, mt, mo, mu, m5, ul, qt, false_and, and_self]
   refine Jad (n - (i + 1)) (by omega) ⟨i + 1, by omega, ?_⟩
   rw [hU', s1]; simp -implicitDefEqProofs (disch := omega) only [go_sem, mdI, e5, e8, e1, e2, e3, m1, m2, m3, mg, mc, mt, mo, mu, m5, ul, qt, L07, L0h, L0t, false_and, and_self]
   try simp [ul]
 obtain rfl : i = n := by omega
 have ul := Jda i; generalize upsN i = U at *
 have qtu : U.take i = U := L0b (by omega)
 simp -implicitDefEqProofs (disch := omega) only [go_sem, e5, e8, e1, e2, e3, m1, m2, m3, mg, mc, mt, mo, mu, m5]
 -- legs
 have hg0 : lgN x HS 0 = [] := rfl
 refine Jag (fun k E σ => ∃ i : Nat, i + k = HS.length - 1 /\ E 9 = I i /\ mdI x (HPS HS) (lgN x HS i) C8 T8 O8 U E σ) (HS.length - 1) ⟨0, by omega, ?_⟩ ?_
 . simp -implicitDefEqProofs (disch := omega) only [go_sem, mdI, hg0, e1, e2, e3, m1, m2, m3, mg, mc, mt, mo, mu, false_and, and_self]
   try ((repeat' apply And.intro) <;> rfl)
 clear e5 e8 e1 e2 e3 m1 m2 m3 mg mc mt mo mu m5 E σ hk hc k
 rintro k E σ ⟨v, hk, e9, e1, e2, e3, m1, m2, m3, mg, mc, mt, mo, mu⟩
 have hvv : ((v : Int) + 1).toNat = v + 1 := by omega
 simp -implicitDefEqProofs (disch := omega) only [go_sem, e9, e1, e2, e3, m1, m2, m3, mg, mc, mt, mo, mu]
 refine Jab (fun hc => ?_) (fun hc => ?_)
 rotate_left
 . obtain rfl : v = HS.length - 1 := by omega
   generalize lgN x HS (HS.length - 1) = G at *
   have qg : G.take (HS.length - 1) = G := L0b (by omega)
   have qc : C8.take C8.length = C8 := L0e
   have qt : T8.take T8.length = T8 := L0e
   have qo : O8.take O8.length = O8 := L0e
   simp -implicitDefEqProofs (disch := omega) only [go_sem, e9, e1, e2, e3, m1, m2, m3, mg, mc, mt, mo, mu]
   refine Jap Plain.mono [29360178, 29360179, 29360180, 29360181, 29360182] ?_
   simp -implicitDefEqProofs (disch := omega) only [go_sem, e9, e1, e2, e3, m1, m2, m3, mg, mc, mt, mo, mu, hlen1, ul, qg, qc, qt, qo, qtu, L06, false_and, and_self]
   refine Jaa cw ?_
   simp -implicitDefEqProofs (disch := omega) only [go_sem, e9, e1, e2, e3, m1, m2, m3, mg, mc, mt, mo, mu, hlen1, ul, qg, qc, qt, qo, qtu, L06, false_and, and_self, results13]; try rfl
 have hv1 : v < HS.length := by omega
 have hv2 : v + 1 < HS.length := by omega
 have hgl := Jo3 x HS v; have s1 := Jre x HS v
 have hlm : legM x HS v = ⟨(gd HS v).1, (gd HS (v + 1)).1, (crsF x (gd HS v).1.toNat).cnt (Jaf (legY x v).1 2000) (Jaf (legY x v).1 2000 + Jaf (legY x v).2.1 900), if Jaf (legY x v).2.2 4 = 3 then ⟨((crsF x (gd HS (v + 1)).1.toNat).cnt (Jaf (legY x v).1 2000) (Jaf (legY x v).1 2000 + Jaf (legY x v).2.1 900)).b, ((crsF x (gd HS (v + 1)).1.toNat).cnt (Jaf (legY x v).1 2000) (Jaf (legY x v).1 2000 + Jaf (legY x v).2.1 900)).e + Jaf (legY x v).2.2 400⟩ else (crsF x (gd HS (v + 1)).1.toNat).cnt (Jaf (legY x v).1 2000) (Jaf (legY x v).1 2000 + Jaf (legY x v).2.1 900)⟩ := rfl
 have hY : legY x v = if x.legs = [] then (100 * (v : Int), 60, 0) else gd x.legs (v % x.legs.length) := rfl
 have hi1 := hHi _ (Jan HS v hv1); have hi2 := hHi _ (Jan HS (v + 1) hv2)
 have hYr : T3ok (legY x v) := by
  rw [hY]
  split
  . refine ⟨⟨?_, ?_⟩, ⟨?_, ?_⟩, ⟨?_, ?_⟩⟩ <;> simp only <;> omega
  . rename_i hne
    exact hx.legs _ (Jan _ _ (L1h _ (L19.2 hne)))
 obtain ⟨y1, y2, y3⟩ := hYr
 have a1 := Jai (c := (legY x v).1) (n := 2000) (by omega)
 have a2 := Jai (c := (legY x v).2.1) (n := 900) (by omega)
 have a3 := Jai (c := (legY x v).2.2) (n := 400) (by omega)
 have d1 := Jav (legY x v).1 2000 y1 (by omega)
 have d2 := Jav (legY x v).2.1 900 y2 (by omega)
 have d3 := Jav (legY x v).2.2 400 y3 (by omega)
 have d4 := Jav (legY x v).2.2 4 y3 (by omega)
 have n1 : (((gd HS v).1.toNat : Nat) : Int) = (gd HS v).1 := by omega
 have n2 : (((gd HS (v + 1)).1.toNat : Nat) : Int) = (gd HS (v + 1)).1 := by omega
 have f1 := Jgu x (gd HS v).1.toNat hx.crsL (by omega)
 have f2 := Jgu x (gd HS (v + 1)).1.toNat hx.crsL (by omega)
 rw [n1] at f1; rw [n2] at f2
 have g1 := Jhs (crsF x (gd HS v).1.toNat) (Jaf (legY x v).1 2000) (Jaf (legY x v).1 2000 + Jaf (legY x v).2.1 900) (Jkz hx _) (by omega) (by omega)
 have g2 := Jhs (crsF x (gd HS (v + 1)).1.toNat) (Jaf (legY x v).1 2000) (Jaf (legY x v).1 2000 + Jaf (legY x v).2.1 900) (Jkz hx _) (by omega) (by omega)
 have g3 : ((crsF x (gd HS (v + 1)).1.toNat).cnt (Jaf (legY x v).1 2000) (Jaf (legY x v).1 2000 + Jaf (legY x v).2.1 900)).e <= 9000 := by
  have hd := Jai (c := (crsF x (gd HS (v + 1)).1.toNat).d) (n := 101) (by omega)
  have := (JdR (d := Jaf (crsF x (gd HS (v + 1)).1.toNat).d 101) (by omega) (crsF x (gd HS (v + 1)).1.toNat).s (crsF x (gd HS (v + 1)).1.toNat).r (t := Jaf (legY x v).1 2000 + Jaf (legY x v).2.1 900) (by omega)).2
  simp only [Cr.cnt, Cr.show]; omega
 have g4 := (JdE.1 (Joi (crsF x (gd HS (v + 1)).1.toNat) (f := Jaf (legY x v).1 2000) (t := Jaf (legY x v).1 2000 + Jaf (legY x v).2.1 900) (by omega) (by omega) (by omega)))
 generalize hK1 : (crsF x (gd HS v).1.toNat).cnt (Jaf (legY x v).1 2000) (Jaf (legY x v).1 2000 + Jaf (legY x v).2.1 900) = K1 at *; generalize hK2 : (crsF x (gd HS (v + 1)).1.toNat).cnt (Jaf (legY x v).1 2000) (Jaf (legY x v).1 2000 + Jaf (legY x v).2.1 900) = K2 at *; clear hK1 hK2; generalize crsF x (gd HS v).1.toNat = R1 at *; generalize crsF x (gd HS (v + 1)).1.toNat = R2 at *; generalize Jaf (legY x v).1 2000 = w1 at *; generalize Jaf (legY x v).2.1 900 = w2 at *; generalize Jaf (legY x v).2.2 400 = w3 at *; generalize Jaf (legY x v).2.2 4 = w4 at *; generalize hLM : legM x HS v = LM at *; generalize hG' : lgN x HS (v + 1) = G' at *; generalize lgN x HS v = G at *
 have qg : G.take v = G := L0b (by omega)
 have y1 := y1; simp -implicitDefEqProofs (disch := omega) only [go_sem, e9, e1, e2, e3, m1, m2, m3, mg, mc, mt, mo, mu, false_and, and_self]
 refine JbV (fun E σ => E 9 = I v /\ E 10 = .ptr 29360288 3 0 0 /\ mdI x (HPS HS) G C8 T8 O8 U E σ /\ σ 29360288 = some ⟨29, 3, [.agg [I (legY x v).1, I (legY x v).2.1, I (legY x v).2.2]]⟩) (fun h0 => ?_) (fun h0 => ?_) ?_
 . have hne : x.legs ≠ [] := fun h => by rw [h] at h0; exact absurd h0 (by decide)
   rw [if_neg hne] at hY; have hlp := L19.2 hne
   have hm : ((v : Int)).tmod x.legs.length = ((v % x.legs.length : Nat) : Int) := by rw [L11 (by omega)]; omega
   have hlt : v % x.legs.length < x.legs.length := L1h _ hlp
   generalize v % x.legs.length = j at *; rw [hY]; simp -implicitDefEqProofs (disch := omega) only [go_sem, mdI, e9, e1, e2, e3, m1, m2, m3, mg, mc, mt, mo, mu, hm, false_and, and_self]; try rfl
 . have hnil : x.legs = [] := L0M (by omega)
   rw [if_pos hnil] at hY; rw [hY]; simp -implicitDefEqProofs (disch := omega) only [go_sem, mdI, e9, e1, e2, e3, m1, m2, m3, mg, mc, mt, mo, mu, false_and, and_self]; try rfl
 clear e9 e1 e2 e3 m1 m2 m3 mg mc mt mo mu E σ hY
 rintro E σ ⟨e9, e10, ⟨e1, e2, e3, m1, m2, m3, mg, mc, mt, mo, mu⟩, m10⟩
 generalize (legY x v).1 = u1 at *; generalize (legY x v).2.1 = u2 at *; generalize (legY x v).2.2 = u3 at *; simp -implicitDefEqProofs (disch := omega) only [go_sem, e9, e10, e1, e2, e3, m1, m2, m3, mg, mc, mt, mo, mu, m10, false_and, and_self]
 refine Jaa d1 ?_
 simp -implicitDefEqProofs (disch := omega) only [go_sem, e9, e10, e1, e2, e3, m1, m2, m3, mg, mc, mt, mo, mu, m10, false_and, and_self]
 iterate 6
  first | refine Jaa d2 ?_ | refine Jaa f1 ?_ (h4 := by first | exact .inl rfl | exact .inr (Jom _)) | refine Jaa g1 ?_ | refine Jaa f2 ?_ (h4 := by first | exact .inl rfl | exact .inr (Jom _)) | refine Jaa g2 ?_ | refine Jaa d4 ?_
  simp -implicitDefEqProofs (disch := omega) only [go_sem, e9, e10, e1, e2, e3, m1, m2, m3, mg, mc, mt, mo, mu, m10, hvv, false_and, and_self]
 refine JbV (fun E σ => E 9 = I v /\ E 13 = .ptr 29360336 6 0 0 /\ mdI x (HPS HS) G C8 T8 O8 U E σ /\ σ 29360336 = some ⟨33, 6, [LGP LM]⟩) (fun h0 => ?_) (fun h0 => ?_) ?_
 . rw [if_pos h0] at hlm; rw [hlm]; simp -implicitDefEqProofs (disch := omega) only [go_sem, e9, e10, e1, e2, e3, m1, m2, m3, mg, mc, mt, mo, mu, m10, false_and, and_self]
   refine Jaa d3 ?_
   simp -implicitDefEqProofs (disch := omega) only [go_sem, mdI, e9, e10, e1, e2, e3, m1, m2, m3, mg, mc, mt, mo, mu, m10, false_and, and_self]; try rfl
 . rw [if_neg h0] at hlm; rw [hlm]; simp -implicitDefEqProofs (disch := omega) only [go_sem, mdI, e9, e10, e1, e2, e3, m1, m2, m3, mg, mc, mt, mo, mu, m10, false_and, and_self]; try rfl
 clear e9 e10 e1 e2 e3 m1 m2 m3 mg mc mt mo mu m10 E σ hlm
 rintro E σ ⟨e9, e13, ⟨e1, e2, e3, m1, m2, m3, mg, mc, mt, mo, mu⟩, m13⟩
 simp -implicitDefEqProofs (disch := omega) only [go_sem, e9, e13, e1, e2, e3, m1, m2, m3, mg, mc, mt, mo, mu, m13, hgl, qg, false_and, and_self]
 refine Jad (HS.length - 1 - (v + 1)) (by omega) ⟨v + 1, by omega, ?_⟩
 rw [hG', s1]; simp -implicitDefEqProofs (disch := omega) only [go_sem, mdI, e9, e13, e1, e2, e3, m1, m2, m3, mg, mc, mt, mo, mu, m13, hgl, qg, L07, L0h, L0t, false_and, and_self]
 try simp [hgl]
def lA : Lg := ⟨1, 2, ⟨10, 70⟩, ⟨510, 570⟩⟩
def lB : Lg := ⟨1, 2, ⟨10, 70⟩, ⟨520, 570⟩⟩
theorem sp1 : Jb8 oneC lA.g = some ⟨(1010, 1010), (1070, 1070)⟩ := by decide +kernel
theorem sp2 : Jb8 twoC lA.k = some ⟨(1010, 1014), (1070, 1074)⟩ := by decide +kernel
theorem ag1 : Jdf oneC twoC lA = some ⟨(1010, 1010), (1070, 1070)⟩ := by decide +kernel
theorem ag2 : Jdf oneC twoC lB = none := by decide +kernel
theorem lgA : legF lA = true := by decide +kernel
theorem lgB : legF lB = true := by decide +kernel
theorem rcA : recF lA 1 = ⟨#[16, 2, 4, 2, 20, 140, 1]⟩ := by decide +kernel
def xS : ByteArray := ⟨#[120]⟩
def yS : ByteArray := ⟨#[121]⟩
def exE : List ByteArray := [xS, recF lB 2, recF lB 1]
theorem fi1 : Ja0 exE (recF lB 1) (recF lB 2) = 2 := by decide +kernel
theorem fi2 : Ja0 exE (recF lB 2) (recF lB 1) = 1 := by decide +kernel
theorem fi3 : Ja0 [] (recF lB 2) (recF lB 1) = 0 := by decide +kernel
theorem fi4 : Ja0 exE xS (recF lB 1) = 1 := by decide +kernel
theorem fi5 : Ja0 exE (recF lB 1) yS = 1 := by decide +kernel
theorem bw1 : Jea exE oneC twoC lB = ((1024, 1070), 2) := by decide +kernel
theorem bw2 : Jea [] oneC twoC lB = ((0, 0), 0) := by decide +kernel
theorem bw3 : Jea [] oneC twoC lA = ((1010, 1070), 0) := by decide +kernel
def exR : Rg := ⟨0, exE⟩
theorem Jsx : regB exR = true := by decide +kernel
def exP : Pt := ⟨Jfc (keyF 0) exR 3, ([0, 1, 2] : List Int).map fun i => JbS exR 3 i.toNat⟩
def exQ : Pt := ⟨Jfc (keyF 0) exR 3, ([1, 2] : List Int).map fun i => JbS exR 3 i.toNat⟩
theorem shP : JeX (keyF 0) exR 3 [0, 1, 2] = some exP := by
 unfold JeX
 rw [if_pos ⟨JgE 0, Jsx, by decide, by decide⟩]; rfl
theorem shQ : JeX (keyF 0) exR 3 [1, 2] = some exQ := by
 unfold JeX
 rw [if_pos ⟨JgE 0, Jsx, by decide, by decide⟩]; rfl
theorem Jjl : PtOK exP := Jle shP (by decide)
theorem Jos : PtOK exQ := Jle shQ (by decide)
theorem evP : evF (keyF 0) exP = exE := by
 unfold evF; rw [if_pos (JdC shP).1]
 show preN 0 [JbS exR 3 0, JbS exR 3 1, JbS exR 3 2] = _
 simp [preN, JbS]
 rfl
theorem evQ : evF (keyF 0) exQ = [] := by
 unfold evF; rw [if_pos (JdC shQ).1]
 show preN 0 [JbS exR 3 1, JbS exR 3 2] = _
 simp [preN, JbS]
def exN (w : List Int) : Nm := ⟨[(1, 0), (0, 1), (0, 1)], [], [], [600], [], [], w⟩
theorem Jl4 (x : Nm) : evF (Jaw x).key (Jaw x).part = preF (Jaw x).part := by
 unfold evF
 exact if_pos (Jki _ _ _)
theorem Jor (w : List Int) (f : ∀ n ∈ w, R64 n) (c : w.length <= 9223372036854775807) : (exN w).ok where
 hops := show ∀ h ∈ [((1 : Int), (0 : Int)), (0, 1), (0, 1)], R64 h.1 /\ R64 h.2 from fun h b => by
  simp only [L0i, L20, or_false] at b
  rcases b with rfl | rfl | rfl <;> exact ⟨⟨by decide, by decide⟩, by decide, by decide⟩
 hopsL := show ([((1 : Int), (0 : Int)), (0, 1), (0, 1)] : List (Int × Int)).length <= _ by decide
 legs := fun q h => by cases h
 legsL := L13 _
 crs := fun q h => by cases h
 crsL := L13 _
 bases := fun n d => by
  obtain rfl := L0p.1 (show n ∈ [(600 : Int)] from d)
  exact ⟨by decide, by decide⟩
 basesL := show ([600] : List Int).length <= _ by decide
 rates := fun q h => by cases h
 ratesL := L13 _
 offs := fun q h => by cases h
 offsL := L13 _
 wit := f
 witL := c
theorem Jim (w : List Int) : (Jaw (exN w)).hops = [(1, 0), (2, 1), (3, 2)] := by
 show Jay [(1, 0), (0, 1), (0, 1)] = _
 decide +kernel
theorem Jot (w : List Int) : (Jaw (exN w)).ups = upsN 4 := by
 show upsN ((JcA [(1, 0), (0, 1), (0, 1)]).2 + 2).toNat = _
 have : ((JcA [(1, 0), (0, 1), (0, 1)]).2 + 2).toNat = 4 := by decide +kernel
 rw [this]
theorem Jsz (a b : Int) (c : Jaf (a.tdiv 128) 8 ≠ 7) (d : Jaf (b.tdiv 128) 8 ≠ 7) : preF (Jaw (exN [a, b])).part = [witE JaO (upsN 4) (Jaw (exN [a, b])).legs a, witE JaO (upsN 4) (Jaw (exN [a, b])).legs b] := by
 have g : upsN ((JcA (exN [a, b]).hops).2 + 2).toNat = upsN 4 := Jot [a, b]
 show preN 0 ((witN [a, b] 2).map fun i => JbS (witR JaO (upsN ((JcA (exN [a, b]).hops).2 + 2).toNat) (Jaw (exN [a, b])).legs [a, b]) 2 i.toNat) = _
 rw [g]
 have f : witN [a, b] 2 = [0, 1] := by
  simp [witN, gd, c, d]
 rw [f]
 simp [preN, JbS, witR]
 rfl
theorem JtB : payF (Jaw (exN [4, 0])) 1 = 1 := by
 unfold payF
 rw [Jl4, Jsz 4 0 (by decide) (by decide), Jim, Jot]
 have b : witE JaO (upsN 4) (Jaw (exN [4, 0])).legs 4 = updS 1 := by
  unfold witE; rw [if_pos (by decide)]; decide +kernel
 have c : witE JaO (upsN 4) (Jaw (exN [4, 0])).legs 0 = JaO := by
  unfold witE; rw [if_neg (by decide), if_neg (fun h => absurd h.1 (by decide))]
 rw [b, c]
 decide +kernel
theorem JtC : payF (Jaw (exN [0, 4])) 1 = 2 := by
 unfold payF
 rw [Jl4, Jsz 0 4 (by decide) (by decide), Jim, Jot]
 have b : witE JaO (upsN 4) (Jaw (exN [0, 4])).legs 4 = updS 1 := by
  unfold witE; rw [if_pos (by decide)]; decide +kernel
 have c : witE JaO (upsN 4) (Jaw (exN [0, 4])).legs 0 = JaO := by
  unfold witE; rw [if_neg (by decide), if_neg (fun h => absurd h.1 (by decide))]
 rw [b, c]
 decide +kernel
theorem Jgw (w : List Int) : (Jaw (exN w)).legs.length = 2 := by
 show (Jhj (exN w) (Jay [(1, 0), (0, 1), (0, 1)])).length = 2
 rw [Jdq]; decide +kernel
theorem Jsy (w : List Int) {i : Nat} (hi : i < 2) : (gd (Jaw (exN w)).legs i).t = (gd [((1 : Int), (0 : Int)), (2, 1), (3, 2)] (i + 1)).1 := by
 have h := (JiW (Ja8 (exN w)) (i := i) (by rw [Jgw]; exact hi)).2.2
 rw [Jim] at h; exact h
theorem JqY : (Jbu (Jaw (exN [4, 0]))).length = 2 /\ (gd (Jbu (Jaw (exN [4, 0]))) 0).p = 1 /\ (gd (Jbu (Jaw (exN [4, 0]))) 0).q = 2 /\ (gd (Jbu (Jaw (exN [4, 0]))) 1).p = 1 /\ (gd (Jbu (Jaw (exN [4, 0]))) 1).q = 3 := by
 refine ⟨by rw [JbK, Jgw], ?_⟩
 rw [Jew _ (by rw [Jgw]; omega), Jew _ (by rw [Jgw]; omega)]
 refine ⟨?_, Jsy _ (by omega), JtB, Jsy _ (by omega)⟩
 show payF (Jaw (exN [4, 0])) 0 = 1
 unfold payF
 rw [if_pos rfl, Jim]; rfl
theorem JgK (x : Nm) (d : x.ok) : (Jaw x).ok where
 part := JyO _ _ _
 rds := fun c b => by
  have := JaK.1 (Ja8 x)
  have := (JdD.1 (L0c.1 this.2.2.1 c b)).1.2.2
  omega
 good := L0c.1 (JaK.1 (Ja8 x)).2.2.2.1
 hops := by have := (JaK.1 (Ja8 x)).2.1; omega
 legs := by have := (JaK.1 (Ja8 x)).2.1; omega
 cks := by have := (JaK.1 (Ja8 x)).2.1; omega
 tfs := by have := (JaK.1 (Ja8 x)).2.1; omega
 offs := by have := (JaK.1 (Ja8 x)).2.1; omega
 ups := by have := (JaK.1 (Ja8 x)).2.1; omega
theorem JlG (a b : Int) (ha : R64 a) (hb : R64 b) : Ev prog 13 [.agg [.sl 2 [.agg [I 1, I 0], .agg [I 0, I 1], .agg [I 0, I 1]], .v (.slice none 0 0), .v (.slice none 0 0), .sl 1 [I 600], .v (.slice none 0 0), .v (.slice none 0 0), .sl 1 [I a, I b]]] (TPP (Jaw (exN [a, b]))) :=
 (JgL (exN [a, b]) (Jor [a, b] (by intro n hn; rcases L0i.1 hn with rfl | hn; exact ha; obtain rfl := L0p.1 hn; exact hb) (by simp))).asIf ⟨Jqy ⟨Jgi _, JfX 3, JfX 4, Jgi _, JfX 4, JfX 1, Jgi _, trivial⟩, trivial⟩
set_option maxHeartbeats 16000000 in
theorem Jux : Ev prog 12 [] (B true) := by
 have c : oneC.r.length <= 9223372036854775807 := by decide
 have d : twoC.r.length <= 9223372036854775807 := by decide
 have l := Jx1; have f := JyM
 have H : Ev prog 37 [CKP oneC, .agg [I 10, I 70]] (.tup [.agg [I 1010, I 1010, I 1070, I 1070], I 0]) := by
  have := JdT oneC lA.g c
  rw [sp1] at this; exact this
 have J : Ev prog 37 [CKP twoC, .agg [I 510, I 570]] (.tup [.agg [I 1010, I 1014, I 1070, I 1074], I 0]) := by
  have := JdT twoC lA.k d
  rw [sp2] at this; exact this
 have K : Ev prog 29 [CKP oneC, CKP twoC, .agg [I 1, I 2, I 10, I 70, I 510, I 570]] (.tup [.agg [I 1010, I 1010, I 1070, I 1070], B true]) := by
  have := Jge oneC twoC lA c d
  rw [ag1] at this; exact this
 have M : Ev prog 29 [CKP oneC, CKP twoC, .agg [I 1, I 2, I 10, I 70, I 520, I 570]] (.tup [.agg [I 0, I 0, I 0, I 0], B false]) := by
  have := Jge oneC twoC lB c d
  rw [ag2] at this; exact this
 have N : Ev prog 35 [.agg [I 1, I 2, I 10, I 70, I 510, I 570], I 1] (.tup [Str ⟨#[16, 2, 4, 2, 20, 140, 1]⟩, I 0]) := by
  have := JhS lA 1
  rw [recV, if_pos ⟨lgA, by decide⟩, rcA] at this; exact this
 have O : Ev prog 35 [.agg [I 1, I 2, I 10, I 70, I 520, I 570], I 2] (.tup [Str (recF lB 2), I 0]) := by
  have := JhS lB 2
  rw [recV, if_pos ⟨lgB, by decide⟩] at this; exact this
 have P : Ev prog 35 [.agg [I 1, I 2, I 10, I 70, I 520, I 570], I 1] (.tup [Str (recF lB 1), I 0]) := by
  have := JhS lB 1
  rw [recV, if_pos ⟨lgB, by decide⟩] at this; exact this
 have Q : Ev prog 35 [.agg [I 1, I 2, I 10, I 70, I 510, I 570], I 3] (.tup [Str ⟨#[]⟩, I 380]) := by
  have := JhS lA 3
  rw [recV, if_neg (fun h => absurd h.2 (by decide))] at this; exact this
 have R := JoX 0 (by omega)
 have s : Ev prog 32 [Str (keyF 0), .agg [I 0, .sl 1 [Str ⟨#[120]⟩, Str (recF lB 2), Str (recF lB 1)]], I 3, .sl 1 [I 0, I 1, I 2]] (.tup [PTP exP, I 0]) := by
  have := JpN (keyF 0) exR 3 [0, 1, 2] (by decide) (by decide) (fun n i => by simp only [L0i, L20, or_false] at i; rcases i with rfl | rfl | rfl <;> exact ⟨by decide, by decide⟩)
  rw [shP] at this; exact this
 have t : Ev prog 32 [Str (keyF 0), .agg [I 0, .sl 1 [Str ⟨#[120]⟩, Str (recF lB 2), Str (recF lB 1)]], I 3, .sl 1 [I 1, I 2]] (.tup [PTP exQ, I 0]) := by
  have := JpN (keyF 0) exR 3 [1, 2] (by decide) (by decide) (fun n i => by simp only [L0i, L20, or_false] at i; rcases i with rfl | rfl <;> exact ⟨by decide, by decide⟩)
  rw [shQ] at this; exact this
 have u : Ev prog 30 [CKP oneC, CKP twoC, .agg [I 1, I 2, I 10, I 70, I 520, I 570], Str (keyF 0), PTP exP] (.tup [.agg [I 1024, I 1070], I 2, I 0]) := by
  have := Je4 oneC twoC lB (keyF 0) exP lgB Jjl c d
  rw [evP, bw1] at this; exact this
 have w : Ev prog 30 [CKP oneC, CKP twoC, .agg [I 1, I 2, I 10, I 70, I 520, I 570], Str (keyF 0), PTP exQ] (.tup [.agg [I 0, I 0], I 0, I 0]) := by
  have := Je4 oneC twoC lB (keyF 0) exQ lgB Jos c d
  rw [evQ, bw2] at this; exact this
 have y : Ev prog 30 [CKP oneC, CKP twoC, .agg [I 1, I 2, I 10, I 70, I 510, I 570], Str (keyF 0), PTP exQ] (.tup [.agg [I 1010, I 1070], I 0, I 0]) := by
  have := Je4 oneC twoC lA (keyF 0) exQ lgA Jos c d
  rw [evQ, bw3] at this; exact this
 have j := fun a b => Jqf a b
 have z : Ev prog 21 [.agg [I 1010, I 1014, I 1070, I 1074]] (.agg [I 1014, I 1070]) := Jif ⟨(1010, 1014), (1070, 1074)⟩
 have S : Ev prog 19 [Str (keyF 0), PTP exP, Str (recF lB 1), Str (recF lB 2)] (I 2) := by
  have := Jdl (keyF 0) exP (recF lB 1) (recF lB 2) Jjl
  rw [evP, fi1] at this; exact this
 have T : Ev prog 19 [Str (keyF 0), PTP exP, Str (recF lB 2), Str (recF lB 1)] (I 1) := by
  have := Jdl (keyF 0) exP (recF lB 2) (recF lB 1) Jjl
  rw [evP, fi2] at this; exact this
 have U : Ev prog 19 [Str (keyF 0), PTP exQ, Str (recF lB 2), Str (recF lB 1)] (I 0) := by
  have := Jdl (keyF 0) exQ (recF lB 2) (recF lB 1) Jos
  rw [evQ, fi3] at this; exact this
 have V : Ev prog 19 [Str (keyF 0), PTP exP, Str ⟨#[120]⟩, Str (recF lB 1)] (I 1) := by
  have := Jdl (keyF 0) exP xS (recF lB 1) Jjl
  rw [evP, fi4] at this; exact this
 have W : Ev prog 19 [Str (keyF 0), PTP exP, Str (recF lB 1), Str ⟨#[121]⟩] (I 1) := by
  have := Jdl (keyF 0) exP (recF lB 1) yS Jjl
  rw [evP, fi5] at this; exact this
 have X := JlG 4 0 ⟨by decide, by decide⟩ ⟨by decide, by decide⟩
 have Y := JlG 0 4 ⟨by decide, by decide⟩ ⟨by decide, by decide⟩
 have m := JgK (exN [4, 0]) (Jor _ (fun n i => by simp only [L0i, L20, or_false] at i; rcases i with rfl | rfl <;> exact ⟨by decide, by decide⟩) (by decide))
 have o := JgK (exN [0, 4]) (Jor _ (fun n i => by simp only [L0i, L20, or_false] at i; rcases i with rfl | rfl <;> exact ⟨by decide, by decide⟩) (by decide))
 have Z := Jjc (Jaw (exN [4, 0])) m (Ja8 _)
 have k4 : Ev prog 26 [TPP (Jaw (exN [0, 4])), I 1] (.tup [I 2, I 0]) := by
  have := JjS (Jaw (exN [0, 4])) o 1
  rw [payV, if_pos ⟨Ja8 _, by omega, by rw [Jgw]; omega⟩, show payF (Jaw (exN [0, 4])) (1 : Int).toNat = 2 from JtC] at this
  exact this
 obtain ⟨A, C, D, E, F⟩ := JqY; clear c d m o; generalize Jbu (Jaw (exN [4, 0])) = L at *; generalize Jaw (exN [4, 0]) = t1 at *; generalize Jaw (exN [0, 4]) = t2 at *; generalize exP = p at *; generalize exQ = q at *; generalize recF lB 1 = R1 at *; generalize recF lB 2 = R2 at *; generalize oneC = o1 at *; generalize twoC = o2 at *; generalize keyF 0 = G at *; obtain ⟨aa, ab⟩ := o1; obtain ⟨ac, ad⟩ := o2
 obtain ⟨⟨pc, pn, pr, ps⟩, pl⟩ := p
 obtain ⟨⟨qc, qn, qr, qs⟩, ql⟩ := q
 obtain ⟨s1, s2, s3, s4, s5, s6, ⟨⟨s7, s8, s9, ae⟩, af⟩, ag, ah⟩ := t1
 obtain ⟨u1, u2, u3, u4, u5, u6, ⟨⟨u7, u8, u9, ai⟩, aj⟩, ak, al⟩ := t2
 refine EW [4, 5, 6, 7, 14, 15, 16] func12 ?_
 simp -implicitDefEqProofs (disch := omega) only [go_sem, ntmps12]
 iterate 18
  first | refine Jco Plain.mono ?_ | refine Jaa l ?_ (h4 := by first | exact .inl rfl | exact .inr (Jct _)) | refine Jaa H ?_ | refine Jaa f ?_ (h4 := by first | exact .inl rfl | exact .inr (Jct _)) | refine Jaa J ?_ | refine Jaa K ?_ | refine Jaa M ?_ | refine Jaa N ?_ | refine Jaa O ?_ | refine Jaa P ?_ | refine Jaa R ?_
  simp -implicitDefEqProofs (disch := omega) only [go_sem, false_and, and_self]
 refine Jar rfl ?_
 iterate 2
  first | refine Jbk [27264512, 27264544] ?_ | refine Jaa s ?_
  simp -implicitDefEqProofs (disch := omega) only [go_sem, false_and, and_self]
 refine Jar rfl ?_
 iterate 25
  first | refine Jbk [27264672, 27264704] ?_ | refine Jaa t ?_ | refine Jco Plain.mono ?_ | refine Jaa l ?_ (h4 := by first | exact .inl rfl | exact .inr (Jct _)) | refine Jaa f ?_ (h4 := by first | exact .inl rfl | exact .inr (Jct _)) | refine Jaa u ?_ | refine Jaa w ?_ | refine Jaa y ?_ | refine Jaa Q ?_ | refine Jaa (j _ _) ?_ | refine Jaa z ?_ | refine Jaa S ?_ | refine Jaa T ?_ | refine Jaa U ?_ | refine Jaa V ?_ | refine Jaa W ?_
  simp -implicitDefEqProofs (disch := omega) only [go_sem, false_and, and_self]
 refine Jar rfl ?_
 iterate 2
  first | refine Jbk [27267504, 27267520, 27267536] ?_ | refine Jaa X ?_
  simp -implicitDefEqProofs (disch := omega) only [go_sem, false_and, and_self]
 refine Jar rfl ?_
 iterate 3
  first | refine Jbk [27267632, 27267648, 27267664] ?_ | refine Jaa Y ?_ | refine Jaa Z ?_
  simp -implicitDefEqProofs (disch := omega) only [go_sem, false_and, and_self]
 refine Jaa k4 ?_
 simp -implicitDefEqProofs (disch := omega) only [go_sem, A, C, D, E, F, beq_self_eq_true]
 refine Jab (fun h => absurd rfl h) (fun _ => ?_)
 simp -implicitDefEqProofs (disch := omega) only [go_sem, A, C, D, E, F, beq_self_eq_true, results12]; try simp
end Go.Proofs.YtnpbhgeffapojaaGreatDoor
namespace Go.Vai
open Go.RowKit
end Go.Vai
set_option maxRecDepth 100000
namespace Go.Proofs.YtnpbhgeffapojaaGreatDoor
open Go.Proofs.Tryz
open Go.Vai Go Go.Proofs
@[go_sem] theorem JwQ (l : List T3) (a b c : Int) : l.map QT ++ [.agg [.v (.int .i64 a), .v (.int .i64 b), .v (.int .i64 c)]] = (l ++ [(a, b, c)]).map QT := by simp
end Go.Proofs.YtnpbhgeffapojaaGreatDoor
set_option maxRecDepth 100000
namespace Go.Vai
open Go.RowKit Go.ChangeShapes Go.WideShapes
theorem Jt6 {H : Type} {enc : TypeId × Value -> H} {C : Checked} {os : Os} {f : FuncId} {m : Func} {s : ChangeSpec} {g : List PathCond} {u h : Bool} {tb : TypeId} {ps : List (AV -> Prop)} {X : World -> Array Value -> Prop}
 (Z : ∀ (w w' : World) (args : Array Value), w.heap = w'.heap -> X w args -> X w' args)
 (own : ownKnob C.prog.godebug = none) (k : os.Started) (o : C.prog.inits.idxOf? f = none) (I : C.prog.funcs[f]? = some m)
 (l : ∃ (w : World) (c : Tape) (i : Input), w.os = os /\ (w.forCall c i).Shaped C.prog /\ i.vars = [] /\ Input.okWide C.prog (w.forCall c i) .any w.heap.size f i /\
  ((s.pre enc C.prog m g false (w.forCall c i).memory i.args /\ X (w.forCall c i).memory i.args) /\ sizedMet enc C.prog m (OpenSpec.ofChange s) false (w.forCall c i).memory i.args) /\ ({} : Assume).holds C.prog (lone (Frame.enter C.prog f i.args .normal) [] (w.forCall c i)))
 (hl : laidOutB C.prog = true) (hr : (m.params.toList.all fun t => C.prog.readableRec t && decide (t < C.prog.types.size)) = true) (N : m.resultTypes = #[tb]) (O : C.prog.underlying tb = some .bool) (z : s.vars = [])
 (hs : ∀ E : List (DataW H), E.length = m.params.size -> s.fn H E = { results := [.lit (.bool true)], args := E })
 (M : ∀ w : World, Jet C.prog enc w m.params.toList ps) (G : ∀ d, AllP ps d -> Ev C.prog f d (.v (.bool true))) (K : ∀ (w : World) (args : Array Value), X w args -> GOK w (Here w)) :
 ReturnsInHanded {} C os f .any (fun w args => (s.pre enc C.prog m g false w args /\ X w args) /\ sizedMet enc C.prog m (OpenSpec.ofChange s) false w args) (s.post enc C.prog m false u h false) := by
 refine returnsInHanded_of_change_and (C := C) (X := X) Z own k o I l ?_
 intro W P args E gs D B Y _ _ T _
 obtain ⟨p, q, R, V, e, J, L⟩ := Y
 obtain ⟨d, F, A⟩ := JhL (M W) R (fun j t v hj hv => B j t v (by simpa using hj) (by simpa using hv))
 have := (G d F d _ ⟨rfl, rfl⟩).2 W (Here W) args.toList (fun b hb => hb) (K W args T) A
 refine (this.mono ?_)
 rintro e' W' ⟨y, rfl, hx, S, _, _, U⟩
 obtain ⟨ob, Q, _⟩ := U
 have hy : y = .bool true := by
  unfold R1 at Q
  cases Q.2 with | v => rfl
 subst hy
 exact ⟨_, rfl, Jps hl (fun t ht => by simpa using L0c.1 hr t ht) N O z hs ⟨p, q, R, V, e, J, L⟩ hx⟩
end Go.Vai
namespace Go.Proofs.YtnpbhgeffapojaaGreatDoor
open Go.Proofs.Tryz
open Go.Vai Go Go.Proofs Go.RowKit
theorem own3 : ownKnob Tryz.checked.prog.godebug = none := by kernel_rfl
theorem Jq7 : laidOutB Tryz.checked.prog = true := by kernel_rfl
abbrev JmZ : List (String × DataW Unit) := [("dialtone/digest.round", Rows.laid_dialtone_digest_round)]
theorem Jxu : prog.globalNamed "dialtone/digest.round" = some 0 := by kernel_rfl
def JhV : List Int := (gtab.headD (0, [])).2.map fun v => match v with | .int _ n => n | _ => 0
theorem JtL : gtab = [(0, JhV.map (Value.int .u32))] := by kernel_rfl
theorem Jt2 : (Rows.laid_dialtone_digest_round : DataW Unit) = .agg (JhV.map fun n => .lit (.int .u32 n)) := by kernel_rfl
theorem Jla {W : World} (h : laidMetH prog JmZ W) : ∀ (i : Nat) (v : Value), (JhV.map (Value.int .u32))[i]? = some v -> W.cell? ⟨0, i, none⟩ = some v := by
 rw [MakeChecks.laidMetH_plain _ _ _ (by kernel_rfl)] at h
 obtain ⟨M, ⟨I, z, c, H, L, N, d, p, q, l, _, _⟩, _, _⟩ := h
 obtain rfl := Option.some.inj (Jxu.symm.trans d)
 have G : (prog.globals[0]?).map (·.type) = some z := p
 intro i v f
 rw [World.var?_cell d q i]
 have t : z = 296 := by
  have : (prog.globals[0]?).map (·.type) = some 296 := by kernel_rfl
  exact Option.some.inj (G.symm.trans this)
 subst t
 obtain ⟨A, K, rfl, g, y, J, m⟩ := DataW.trod_array (n := 64) (e := 273) (by kernel_rfl) l
 have B : prog.cellsOf 273 = 1 := by kernel_rfl
 simp only [Prod.mk.injEq] at g; have s := g.1; rw [Jt2] at s; simp only [DataW.agg.injEq] at s
 have o : JhV.length = 64 := by kernel_rfl
 have E : i < 64 := by
  have := (L05.1 f).1
  rw [L06, o] at this; exact this
 have j := m i E; rw [B, L0Z] at j
 cases hxi : A[i]? with
 | none => rw [L1W] at hxi; omega
 | some x =>
  rw [hxi] at j
  obtain ⟨n, C, D, _⟩ := DataW.trod_int (k := .u32) (by kernel_rfl) j
  have u : (A.map (·.1))[i]? = some x.1 := by rw [L03, hxi]; rfl
  rw [<- s, L03] at u
  obtain ⟨r, F, b⟩ := L0j.1 u
  rw [L03, F] at f; have f := Option.some.inj f; rw [D] at b; simp only [DataW.lit.injEq, Lit.int.injEq, true_and] at b
  have w : (c.toList.drop i)[0]? = some (.int .u32 n) := by
   have : ((c.toList.drop i).take 1)[0]? = some (.int .u32 n) := by rw [C]; rfl
   rwa [L0m, if_pos (by omega)] at this
  rw [L0E, L0X] at w; rw [<- L0L, w, <- f, b]
theorem gok {W : World} (h : laidMetH prog JmZ W) : GOK W (Here W) := by
 intro p d
 rw [JtL, L0p] at d; subst d; have c := Jla h
 refine ⟨?_, fun i v f => ⟨c i v f, ?_⟩⟩
 . have g : (JhV.map (Value.int .u32))[0]? = some (.int .u32 (gd JhV 0)) := by kernel_rfl
   have := c 0 _ g
   show 0 < W.heap.size
   rcases Nat.eq_zero_or_pos W.heap.size with b | b
   . have : W.heap[0]? = none := Array.getElem?_eq_none (by omega)
     simp [World.cell?, this] at *
   . exact b
 . obtain ⟨r, _, rfl⟩ := L08.1 (L01 f)
   rfl
theorem JqV (os : Os) (args : Array Value) : laidMetH prog JmZ ((World.doorLaid prog 14 os).forCall (fun _ _ => 0) ⟨#[], args, []⟩).memory :=
 laidMetH_of_parts3 (fuel := 8) (laidMet_of_run' 8 (by kernel_rfl) (by kernel_rfl)) (by kernel_rfl) (by kernel_rfl)
section
variable {H : Type} {enc : TypeId × Value -> H} {w : World}
def OI (a : AV) : Prop := ∃ n, R64 n /\ a = I n
theorem wf64 {n : Int} : (Lit.int .i64 n).wf = true ↔ R64 n := by
 have b : IntKind.i64.min = -9223372036854775808 := by decide
 have c : IntKind.i64.max = 9223372036854775807 := by decide
 simp [Lit.wf, R64, b, c]
theorem JkY {t : TypeId} (b : prog.underlying t = some (.int .i64)) : Jb7 prog enc w t OI :=
 (Jpi b).mono (fun a ⟨n, h, e⟩ => ⟨n, wf64.1 h, e⟩) fun a ⟨n, h, e⟩ => ⟨n, wf64.2 h, e⟩
def OSL (a : AV) : Prop := ∃ l : List Int, l.length <= 9223372036854775807 /\ (∀ x ∈ l, R64 x) /\ a = SL l
theorem Jl5 : Jb7 prog enc w 25 OSL :=
 (Jcl (T := Int) (q := R64) (f := I) (e := 3) (sz := 1) (by kernel_rfl) (by kernel_rfl) (by decide) ((JkY (by kernel_rfl)).mono (fun a ⟨n, h, e⟩ => ⟨n, h, e⟩) fun a ⟨n, h, e⟩ => ⟨n, h, e⟩)).mono
  (fun a ⟨l, h, h1, e⟩ => ⟨l, h, h1, e⟩) fun a ⟨l, h, h1, e⟩ => ⟨l, h, h1, e⟩
def OT (a : AV) : Prop := ∃ x y z : Int, R64 x /\ R64 y /\ R64 z /\ a = .agg [I x, I y, I z]
theorem Jpf : Jb7 prog enc w 29 OT :=
 (Jei (T := Int) (q := R64) (f := I) (e := 3) (n := 3) (sz := 1) (by kernel_rfl) (by kernel_rfl) (by kernel_rfl) (JkY (by kernel_rfl))).mono
  (fun a ⟨l, h, h1, e⟩ => by
   match l, h with
   | [x, y, z], _ => exact ⟨x, y, z, h1 x (by simp), h1 y (by simp), h1 z (by simp), e⟩)
  fun a ⟨x, y, z, h1, h2, h3, e⟩ => ⟨[x, y, z], rfl, by simp [h1, h2, h3], e⟩
def OT1 (a : AV) : Prop := ∃ q : T3, T3ok q /\ a = QT q
theorem Jrp : Jb7 prog enc w 29 OT1 :=
 Jpf.mono (fun a ⟨x, y, z, h1, h2, h3, e⟩ => ⟨(x, y, z), ⟨h1, h2, h3⟩, e⟩) fun a ⟨q, h, e⟩ => ⟨q.1, q.2.1, q.2.2, h.1, h.2.1, h.2.2, e⟩
def OTS (a : AV) : Prop := ∃ l : List T3, l.length <= 9223372036854775807 /\ (∀ x ∈ l, T3ok x) /\ a = QTS l
theorem Jl6 : Jb7 prog enc w 23 OTS :=
 (Jcl (T := T3) (q := T3ok) (f := QT) (e := 29) (sz := 3) (by kernel_rfl) (by kernel_rfl) (by decide) Jrp).mono
  (fun a ⟨l, h, h1, e⟩ => ⟨l, h, h1, e⟩) fun a ⟨l, h, h1, e⟩ => ⟨l, h, h1, e⟩
def OC (a : AV) : Prop := ∃ y : Cr, y.ok /\ a = CRP y
theorem Jro : Jb7 prog enc w 35 OC :=
 (JfK (ps := [OI, OI, OSL, OTS]) (Tryz.underlying35) ⟨JkY (by kernel_rfl), JkY (by kernel_rfl), Jl5, Jl6, trivial⟩ (by kernel_rfl) (by kernel_rfl)).mono
  (fun a h => by
   obtain ⟨g, i, rfl⟩ := h
   revert i
   exact JwA (Q := fun l => OC (AV.agg (l.flatMap AV.cells))) (fun a b c d ⟨f, h1, e1⟩ ⟨m, h2, e2⟩ ⟨k, h3, h4, e3⟩ ⟨q, h5, h6, e4⟩ => ⟨⟨f, m, k, q⟩, ⟨h1, h2, h4, h3, h6, h5⟩, by subst e1; subst e2; subst e3; subst e4; rfl⟩) g)
  fun a ⟨u, h, e⟩ => ⟨[I u.d, I u.s, SL u.r, QTS u.at_], ⟨⟨u.d, h.1, rfl⟩, ⟨u.s, h.2.1, rfl⟩, ⟨u.r, h.2.2.2.1, h.2.2.1, rfl⟩, ⟨u.at_, h.2.2.2.2.2, h.2.2.2.2.1, rfl⟩, trivial⟩, e⟩
end
section
variable {H : Type} {enc : TypeId × Value -> H} {w : World}
def OP (a : AV) : Prop := ∃ x y : Int, R64 x /\ R64 y /\ a = .agg [I x, I y]
theorem JxZ : Jb7 prog enc w 104 OP :=
 (Jei (T := Int) (q := R64) (f := I) (e := 3) (n := 2) (sz := 1) (by kernel_rfl) (by kernel_rfl) (by kernel_rfl) (JkY (by kernel_rfl))).mono
  (fun a ⟨l, h, h1, e⟩ => by
   match l, h with
   | [x, y], _ => exact ⟨x, y, h1 x (by simp), h1 y (by simp), e⟩)
  fun a ⟨x, y, h1, h2, e⟩ => ⟨[x, y], rfl, by simp [h1, h2], e⟩
def OP1 (a : AV) : Prop := ∃ q : Int × Int, (R64 q.1 /\ R64 q.2) /\ a = HPP q
theorem Jui : Jb7 prog enc w 104 OP1 :=
 JxZ.mono (fun a ⟨x, y, h1, h2, e⟩ => ⟨(x, y), ⟨h1, h2⟩, e⟩) fun a ⟨q, h, e⟩ => ⟨q.1, q.2, h.1, h.2, e⟩
def OPS (a : AV) : Prop := ∃ l : List (Int × Int), l.length <= 9223372036854775807 /\ (∀ x ∈ l, R64 x.1 /\ R64 x.2) /\ a = HPS l
theorem Juj : Jb7 prog enc w 22 OPS :=
 (Jcl (T := Int × Int) (q := fun x => R64 x.1 /\ R64 x.2) (f := HPP) (e := 104) (sz := 2) (by kernel_rfl) (by kernel_rfl) (by decide) Jui).mono
  (fun a ⟨l, h, h1, e⟩ => ⟨l, h, h1, e⟩) fun a ⟨l, h, h1, e⟩ => ⟨l, h, h1, e⟩
def OQ1 (a : AV) : Prop := ∃ x : Q4, Q4ok x /\ a = QP x
theorem JxY : Jb7 prog enc w 157 OQ1 :=
 (Jei (T := Int) (q := R64) (f := I) (e := 3) (n := 4) (sz := 1) (by kernel_rfl) (by kernel_rfl) (by kernel_rfl) (JkY (by kernel_rfl))).mono
  (fun a ⟨l, h, g, e⟩ => by
   match l, h with
   | [x, y, z, u], _ => exact ⟨⟨x, y, z, u⟩, ⟨g x (by simp), g y (by simp), g z (by simp), g u (by simp)⟩, e⟩)
  fun a ⟨x, h, e⟩ => ⟨[x.a, x.b, x.c, x.d], rfl, by obtain ⟨g, i, j, k⟩ := h; simp [g, i, j, k], e⟩
def OQ (a : AV) : Prop := ∃ l : List Q4, l.length <= 9223372036854775807 /\ (∀ x ∈ l, Q4ok x) /\ a = QL l
theorem Juh : Jb7 prog enc w 26 OQ :=
 (Jcl (T := Q4) (q := Q4ok) (f := QP) (e := 157) (sz := 4) (by kernel_rfl) (by kernel_rfl) (by decide) JxY).mono
  (fun a ⟨l, h, h1, e⟩ => ⟨l, h, h1, e⟩) fun a ⟨l, h, h1, e⟩ => ⟨l, h, h1, e⟩
def OCS (a : AV) : Prop := ∃ l : List Cr, l.length <= 9223372036854775807 /\ (∀ x ∈ l, x.ok) /\ a = CRS l
theorem Jpd : Jb7 prog enc w 24 OCS :=
 (Jcl (T := Cr) (q := Cr.ok) (f := CRP) (e := 35) (sz := 4) (by kernel_rfl) (by kernel_rfl) (by decide) Jro).mono
  (fun a ⟨l, h, h1, e⟩ => ⟨l, h, h1, e⟩) fun a ⟨l, h, h1, e⟩ => ⟨l, h, h1, e⟩
def ON (a : AV) : Prop := ∃ x : Nm, x.ok /\ a = NMP x
theorem Jpe : Jb7 prog enc w 28 ON :=
 (JfK (ps := [OPS, OTS, OCS, OSL, OQ, OSL, OSL]) (Tryz.underlying28) ⟨Juj, Jl6, Jpd, Jl5, Juh, Jl5, Jl5, trivial⟩ (by kernel_rfl) (by kernel_rfl)).mono
  (fun a h => by
   obtain ⟨i, j, rfl⟩ := h
   revert j
   exact JwB (Q := fun l => ON (AV.agg (l.flatMap AV.cells))) (fun a b c d e f g ⟨k, h1, i1, e1⟩ ⟨x2, h2, i2, e2⟩ ⟨x3, h3, i3, e3⟩ ⟨x4, h4, i4, e4⟩ ⟨x5, h5, i5, e5⟩ ⟨x6, h6, i6, e6⟩ ⟨x7, h7, i7, e7⟩ =>
    ⟨⟨k, x2, x3, x4, x5, x6, x7⟩, ⟨i1, h1, i2, h2, i3, h3, i4, h4, i5, h5, i6, h6, i7, h7⟩, by subst e1; subst e2; subst e3; subst e4; subst e5; subst e6; subst e7; rfl⟩) i)
  fun a ⟨u, h, e⟩ => ⟨[HPS u.hops, QTS u.legs, CRS u.crs, SL u.bases, QL u.rates, SL u.offs, SL u.wit], ⟨⟨_, h.hopsL, h.hops, rfl⟩, ⟨_, h.legsL, h.legs, rfl⟩, ⟨_, h.crsL, h.crs, rfl⟩, ⟨_, h.basesL, h.bases, rfl⟩, ⟨_, h.ratesL, h.rates, rfl⟩, ⟨_, h.offsL, h.offs, rfl⟩, ⟨_, h.witL, h.wit, rfl⟩, trivial⟩, e⟩
end
end Go.Proofs.YtnpbhgeffapojaaGreatDoor

/- Trips; the chapter's examples; the frame -/
import Derived.Test.YtnpbhgeffapojaaGreatDoorKH
import Derived.Test.YtnpbhgeffapojaaGreatDoorRows
import Derived.Test.YtnpbhgeffapojaaGreatDoorCards
import Derived.Test.YtnpbhgeffapojaaGreatDoorTie
import Derived.ProofKit
import Derived.LaidMore
import Derived.OpenShut
import Derived.Stop.Joined
import Derived.Handed
import Derived.Lay
set_option linter.all false
set_option maxRecDepth 100000
namespace Go.Proofs.YtnpbhgeffapojaaGreatDoor
open Go.Proofs.Tryz
open Go.Vai Go Go.Proofs
theorem Jg5 : ∀ (n : Nat) (l : List ByteArray) (i : Nat), l.length <= n -> (Jbb l i).length <= l.length
  | 0, l, i, hn => by
    have h0 : Jbb l i = [] := Jbq JaW Ja3 empF (by omega) i
    rw [h0]; exact L13 _
  | n + 1, l, i, hn => by
    by_cases h : 2 <= l.length
    . have h1 := Jb1 (n := l.length) (by omega)
      have h2 := Jbv l.length; rw [Jd2 h]
      split
      . have := Jg5 n (l.take (Jaw l.length)) i (by rw [L02]; omega)
        rw [L02] at this
        rw [L0f]; omega
      . have := Jg5 n (l.drop (Jaw l.length)) (i - Jaw l.length) (by rw [L0e]; omega)
        rw [L0e] at this
        rw [L0f]; omega
    . have h0 : Jbb l i = [] := Jbq JaW Ja3 empF (by omega) i
      rw [h0]; exact L13 _
theorem JeD {key : ByteArray} {r : Rg} {n : Int} {l : List Int} {p : Pt} (h : Jc1 key r n l = some p) (hl : l.length <= 9223372036854775807) : PtOK p := by
  obtain ⟨_, h1, h2⟩ := Jbn h
  unfold Jc1 at h
  split at h
  . rename_i hc; obtain ⟨hk, hr, hn, ha⟩ := hc; have hr := Jb2.1 hr
    have hmem : ∀ j : Nat, (gd r.l j).size <= 1000 := fun j => by
      by_cases hj : j < r.l.length
      . exact hr.2.2 _ (Jas _ _ hj)
      . rw [Joz _ _ (by omega)]; exact L13 _
    refine ⟨?_, ?_, ?_⟩
    . rw [h1]; simp only [Jer]; rw [Jcf]; omega
    . rw [h2, L05]; exact hl
    . intro x hx
      rw [h2] at hx
      obtain ⟨i, _, rfl⟩ := L06.1 hx
      refine ⟨?_, ?_⟩
      . have := hmem i.toNat; simp only [Ja7]; omega
      . have := Jg5 (r.l.take n.toNat).length (r.l.take n.toNat) i.toNat (L0a _)
        rw [L02] at this
        show (Jbb (r.l.take n.toNat) i.toNat).reverse.length <= _
        rw [L1j]; omega
  . cases h
theorem Jlu (n : Nat) (i : Int) (hi : 0 <= i /\ i < n) : ∀ (l : List Int) (o : Option Int), (∀ q, o = some q -> q < i) -> (∀ q ∈ l, q < i) -> ascN n o l = true -> ascN n o (l ++ [i]) = true
  | [], o, ho, _, _ => by
    rw [L1Q, ascN, ascN, Bool.and_true, decide_eq_true_iff]; exact ⟨hi, ho⟩
  | x :: l, o, ho, hl, h => by
    rw [ascN, L00] at h; rw [L0w, ascN, L00]
    exact ⟨h.1, Jlu n i hi l (some x) (fun q hq => by cases hq; exact hl _ (by simp)) (fun q hq => hl q (L1w _ hq)) h.2⟩
theorem Jlo (w : List Int) : ∀ i, ∀ q ∈ witN w i, 0 <= q /\ q < i
  | 0, q, h => by cases h
  | i + 1, q, h => by
    rw [witN] at h
    rcases L0v.1 h with h | h
    . have := Jlo w i q h; omega
    . split at h
      . obtain rfl := L0p.1 h; omega
      . cases h
theorem Jms (w : List Int) (n : Nat) : ∀ i, i <= n -> ascN n none (witN w i) = true
  | 0, _ => rfl
  | i + 1, h => by
    have ih := Jms w n i (by omega)
    rw [witN]
    split
    . exact Jlu n i (by omega) _ _ (fun q hq => by cases hq) (fun q hq => (Jlo w i q hq).2) ih
    . rw [L0F]; exact ih
theorem Jgj (w : List Int) : ∀ i, (witN w i).length <= i
  | 0 => L0a _
  | i + 1 => by
    have := Jgj w i
    rw [witN, L08]
    split <;> simp <;> omega
theorem Jg6 (l : Lg) (e : Int) : (recF l e).size <= 60 := by
  unfold recF recN; simp only [L0T]; have h1 := JaP 8; have h2 := JaP l.f; have h3 := JaP l.t; have h4 := JaP e
  have h5 := JaP (if e = 1 then l.g else l.k).b
  have h6 := JaP (if e = 1 then l.g else l.k).e
  omega
theorem Jp8 (n : Nat) (j : Nat) : (gd (upsN n) j).size <= 8 := by
  by_cases hj : j < (upsN n).length
  . have hm := Jas (upsN n) j hj; generalize gd (upsN n) j = s at *
    obtain ⟨v, _, rfl⟩ := L06.1 hm
    exact L0a _
  . rw [Joz _ _ (by omega)]; exact L13 _
theorem Jqd (n : Nat) (legs : List Lg) (w : Int) : (witE JaN (upsN n) legs w).size <= 1000 := by
  unfold witE
  split
  . have := Jp8 n (Jad (w.tdiv 3) (upsN n).length).toNat; omega
  . split
    . have := Jg6 (gd legs (Jad (w.tdiv 6) legs.length).toNat) (1 + Jad (w.tdiv 3) 2); omega
    . exact L0u rfl
theorem JoV (c : Int) : keyS c = keyF c := rfl
theorem Ji3 (n : Nat) (legs : List Lg) (w : List Int) : Jc1 (keyS 0) (witR JaN (upsN n) legs w) (min w.length 12 : Nat) (witN w (min w.length 12)) = some (witP JaN (upsN n) legs w) := by
  have hl : (witR JaN (upsN n) legs w).l.length = min w.length 12 := by simp only [witR, L05, L02]; omega
  unfold Jc1; rw [if_pos, L18]
  . rfl
  . refine ⟨JdF 0, Jb2.2 ⟨?_, by rw [hl]; omega, fun s hs => ?_⟩, by rw [hl]; omega, ?_⟩
    . simp only [witR]; omega
    . obtain ⟨x, _, rfl⟩ := L06.1 hs
      exact Jqd n legs x
    . rw [L18]; exact Jms w _ _ (L0a _)
theorem Jkl (n : Nat) (legs : List Lg) (w : List Int) : Jb4 (keyS 0) (witP JaN (upsN n) legs w) = true := (Jbn (Ji3 n legs w)).1
theorem JyU (n : Nat) (legs : List Lg) (w : List Int) : PtOK (witP JaN (upsN n) legs w) := by
  refine JeD (Ji3 n legs w) ?_
  have := Jgj w (min w.length 12)
  omega
theorem JlX (hs : List (Int × Int)) : ∀ (l : List Lg) (v : Nat), (∀ i, i < l.length -> legF (gd l i) = true /\ (gd l i).f = (gd hs (v + i)).1 /\ (gd l i).t = (gd hs (v + i + 1)).1) -> Jfv hs v l = true
  | [], _, _ => rfl
  | x :: l, v, h => by
    rw [Jfv, L00, L00, decide_eq_true_iff]
    have h0 := h 0 (by simp)
    rw [JaD] at h0
    refine ⟨h0, JlX hs l (v + 1) fun i hi => ?_⟩
    have := h (i + 1) (by simpa using hi)
    rw [Jaz, show v + (i + 1) = v + 1 + i by omega] at this
    exact this
theorem JdG (x : Nm) (hs : List (Int × Int)) : (Jhu x hs).length = hs.length - 1 := by simp [Jhu]
theorem JlY (x : Nm) (hs : List (Int × Int)) {i : Nat} (h : i < hs.length - 1) : gd (Jhu x hs) i = legM x hs i := by simp [Jhu, gd, h]
theorem Jcx (n : Nat) : (upsN n).length = n := by simp [upsN]
theorem JiC (x : List (Int × Int)) : 0 <= (Jcz x).2 /\ (Jcz x).2 <= 20 := by
  have h := JdE x
  exact (Jdb x _ (Jas (Jat x) _ (by omega))).2
theorem Ja1 (x : Nm) : Jc5 (Jan x) = true := by
  have hl := JdE x.hops; have h2 := JiC x.hops
  have hup : ((upsN ((Jcz x.hops).2 + 2).toNat).length : Int) = (Jcz x.hops).2 + 2 := by rw [Jcx]; omega
  unfold Jc5; simp only [L00, decide_eq_true_iff, L0b]
  refine ⟨Jkl _ _ _, ⟨⟨hl.1, by simp only [Jan]; omega⟩, JdG _ _, by simp [Jan], by simp [Jan], by simp [Jan], ?_⟩, ?_, ?_, ?_, ?_, ?_⟩
  . simp only [Jan]; omega
  . intro c hc
    obtain ⟨i, _, rfl⟩ := L06.1 hc
    exact (Jik _ _ _ _).2
  . intro c hc
    obtain ⟨i, _, rfl⟩ := L06.1 hc
    exact Jmn _ _
  . intro c hc
    obtain ⟨i, _, rfl⟩ := L06.1 hc
    exact Jup _ _
  . refine JlO _ _ _ (fun h hh => ?_) (fun v hv => ?_)
    . obtain ⟨i, hi, rfl⟩ : ∃ i, i < (Jat x.hops).length /\ gd (Jat x.hops) i = h := by
        have hh' : h ∈ Jat x.hops := hh
        obtain ⟨i, hi, e⟩ := List.mem_iff_getElem.1 hh'
        exact ⟨i, hi, by rw [gd, L1a, L07 hi]; exact e⟩
      have a := Jdb x.hops _ hh
      have b := Jiw x.hops ((Jat x.hops).length - 1 - i) i (by omega) (by omega)
      refine ⟨a.1, by omega, ?_⟩
      show _ < (((upsN ((Jcz x.hops).2 + 2).toNat).length : Nat) : Int)
      omega
    . show (gd ((-1, 0) :: Jat x.hops) (v + 1)).1 ≠ _ /\ _
      have hv' : v < (Jat x.hops).length := hv
      show (gd ((-1, 0) :: Jat x.hops) (v + 1)).1 ≠ (gd ((-1, 0) :: Jat x.hops) v).1 /\ (gd ((-1, 0) :: Jat x.hops) v).2 <= (gd ((-1, 0) :: Jat x.hops) (v + 1)).2
      rw [Jaz]
      cases v with
      | zero =>
        have a := Jdb x.hops _ (Jas (Jat x.hops) 0 hv'); rw [JaD]
        simp only
        omega
      | succ v =>
        rw [Jaz]
        exact Jfq x.hops hv'
  . refine JlX _ _ _ fun i hi => ?_
    have hi' : i < (Jat x.hops).length - 1 := by rw [<- JdG x]; exact hi
    show legF (gd (Jhu x (Jat x.hops)) i) = true /\ (gd (Jhu x (Jat x.hops)) i).f = _ /\ (gd (Jhu x (Jat x.hops)) i).t = _
    rw [JlY _ _ hi', L0q]
    exact ⟨JoZ x (by omega), rfl, rfl⟩
abbrev HPP (h : Int × Int) : AV := .agg [I h.1, I h.2]
abbrev LGS (l : List Lg) : AV := .sl 6 (l.map LGP)
abbrev TPP (t : Tp) : AV := .agg [HPS t.hops, LGS t.legs, CKS t.cks, TFS t.tfs, SL t.offs, Str t.key, I t.part.h.c, I t.part.h.n, Str t.part.h.r, Str t.part.h.s, ITS t.part.l, Str t.call, SLs t.ups]
abbrev TRP (t : Tp) : AV := .agg [HPS t.hops, LGS t.legs, CKS t.cks, TFS t.tfs, SL t.offs, Str t.key, I t.part.h.c, I t.part.h.n, Str t.part.h.r, Str t.part.h.s, ITS t.part.l, Str t.call, SLs t.ups, .mp ((evM (evF t.key t.part)).map entS)]
section
variable (p : Nat -> Bool) (l : List Lg)
@[go_sem] theorem JvT : AV.namesL p (l.map LGP) = false := Jal p l LGP fun _ => rfl
@[go_sem] theorem Jxs : AV.flatL (l.map LGP) = true := Jbi l LGP fun _ => rfl
@[go_sem] theorem Jwy : JbS 6 (l.map LGP) = true := JaI 6 l LGP fun _ => ⟨rfl, rfl⟩
end
section
variable (p : Nat -> Bool) (l : List (Int × Int))
@[go_sem] theorem JvR : AV.namesL p (l.map HPP) = false := Jal p l HPP fun _ => rfl
@[go_sem] theorem Jxr : AV.flatL (l.map HPP) = true := Jbi l HPP fun _ => rfl
@[go_sem] theorem Jww : JbS 2 (l.map HPP) = true := JaI 2 l HPP fun _ => ⟨rfl, rfl⟩
end
structure Tp.ok (t : Tp) : Prop where
  part : PtOK t.part
  rds : ∀ c ∈ t.cks, c.r.length <= 9223372036854775807
  good : ∀ x ∈ t.tfs, JbG x = true
  hops : t.hops.length <= 9223372036854775807
  legs : t.legs.length <= 9223372036854775807
  cks : t.cks.length <= 9223372036854775807
  tfs : t.tfs.length <= 9223372036854775807
  offs : t.offs.length <= 9223372036854775807
  ups : t.ups.length <= 9223372036854775807
theorem Jro (c : Ck) (hl : c.r.length <= 9223372036854775807) : Ev prog 101 [CKP c] (B (!Jb5 c)) := by
  refine EV func101 ?_
  simp -implicitDefEqProofs (disch := omega) only [go_sem, ntmps101]
  refine Jaa (JhB c hl) ?_
  simp -implicitDefEqProofs (disch := omega) only [go_sem, results101]
theorem Jrp (x : Tf) (h : JbG x = true) : Ev prog 104 [TF x] (B (!JbG x)) := by
  rw [h]
  refine EV func104 ?_
  simp -implicitDefEqProofs (disch := omega) only [go_sem, ntmps104]
  refine Jaa (Jmq x h) ?_
  simp -implicitDefEqProofs (disch := omega) only [go_sem, results104]
theorem Jrq (n : Int) : Ev prog 107 [I n] (B (!Jdr n)) := by
  refine EV func107 ?_
  simp -implicitDefEqProofs (disch := omega) only [go_sem, ntmps107]
  refine Jaa (Jdd n (-50400) 50400) ?_
  simp -implicitDefEqProofs (disch := omega) only [go_sem, results107]; try rfl
theorem Juk {T : Type} (Q : T -> Bool) (l : List T) : (l.any fun x => !Q x) = !l.all Q := by rw [<- Jkq, Bool.not_not]
abbrev opV (z : Bool) (r : AV) : AV := if z = true then .tup [r, I 0] else .tup [.v (.pointer none), I 380]
set_option maxHeartbeats 8000000 in
theorem Jl6 (t : Tp) (ht : t.ok) : Ev prog 64 [TPP t] (opV (Jc5 t) (.nptr 190 14 [TRP t])) := by
  obtain ⟨o1, o2, o3, o4, o5, o6, o7, o8, o9⟩ := ht; have c1 := Jk4 t.key t.part o1
  have d1 := JtS 101 [] (fun c => !Jb5 c) t.cks (fun c hc => Jro c (o2 c hc)) (fun _ => rfl) (fun _ => rfl) o6
  have d2 := JtU 104 [] (fun c => !JbG c) t.tfs (fun c hc => Jrp c (o3 c hc)) (fun _ => rfl) (fun _ => rfl) o7
  have d3 := JtT 107 [] (fun c => !Jdr c) t.offs (fun c hc => Jrq c) (fun _ => rfl) (fun _ => rfl) o8
  rw [Juk] at d1 d2 d3
  have hx : Jc5 t = (Jb4 t.key t.part && (decide ((1 <= t.hops.length /\ t.hops.length <= 12) /\ t.legs.length = t.hops.length - 1 /\ t.cks.length = 8 /\ t.tfs.length = 8 /\ t.offs.length = 8 /\ t.ups.length <= 30) &&
    (t.cks.all Jb5 && (t.tfs.all JbG && (t.offs.all Jdr && (JgK t.ups.length (-1, 0) t.hops && Jfv t.hops 0 t.legs)))))) := rfl
  obtain ⟨N, hN⟩ := JeP (evF t.key t.part)
  simp only [TRP, opV]; rw [hN] at c1 ⊢; generalize Jc5 t = z at *; generalize Jb4 t.key t.part = g at *; generalize t.cks.all Jb5 = b1 at *; generalize t.tfs.all JbG = b2 at *; generalize t.offs.all Jdr = b3 at *
  obtain ⟨hops, legs, cks, tfs, offs, key, ⟨⟨pc, pn, pr, ps⟩, pl⟩, call, ups⟩ := t
  simp only at *
  clear hN o1 o2 o3
  refine EV func64 ?_
  simp -implicitDefEqProofs (disch := omega) only [go_sem, ntmps64]
  refine Jaa c1 ?_
  cases g with
  | false =>
    rw [L0c] at hx; subst hx; simp -implicitDefEqProofs (disch := omega) only [go_sem, results64]
  | true =>
  rw [L0k] at hx; simp -implicitDefEqProofs (disch := omega) only [go_sem]
  refine Jaa (Jdd hops.length 1 12) ?_
  by_cases h1 : 1 <= (hops.length : Int) /\ (hops.length : Int) <= 12
  rotate_left
  . rw [decide_eq_false (by omega), L0c] at hx
    rw [decide_eq_false h1]; subst hx; simp -implicitDefEqProofs (disch := omega) only [go_sem, results64]
  rw [decide_eq_true h1]; simp -implicitDefEqProofs (disch := omega) only [go_sem]
  refine Jab (fun h2 => ?_) (fun h2 => ?_)
  . rw [decide_eq_false (by omega), L0c] at hx
    subst hx; simp -implicitDefEqProofs (disch := omega) only [go_sem, h2, results64]
  simp -implicitDefEqProofs (disch := omega) only [go_sem]
  refine Jab (fun h3 => ?_) (fun h3 => ?_)
  . rw [decide_eq_false (by omega), L0c] at hx
    subst hx; simp -implicitDefEqProofs (disch := omega) only [go_sem, h3, results64]
  simp -implicitDefEqProofs (disch := omega) only [go_sem]
  refine Jab (fun h4 => ?_) (fun h4 => ?_)
  . rw [decide_eq_false (by omega), L0c] at hx
    subst hx; simp -implicitDefEqProofs (disch := omega) only [go_sem, h4, results64]
  simp -implicitDefEqProofs (disch := omega) only [go_sem]
  refine Jab (fun h5 => ?_) (fun h5 => ?_)
  . rw [decide_eq_false (by omega), L0c] at hx
    subst hx; simp -implicitDefEqProofs (disch := omega) only [go_sem, h5, results64]
  simp -implicitDefEqProofs (disch := omega) only [go_sem]
  refine Jab (fun h6 => ?_) (fun h6 => ?_)
  . rw [decide_eq_false (by omega), L0c] at hx
    subst hx; simp -implicitDefEqProofs (disch := omega) only [go_sem, h6, results64]
  simp -implicitDefEqProofs (disch := omega) only [go_sem]
  rw [decide_eq_true (by omega), L0k] at hx
  refine Jaa d1 ?_
  cases b1 with
  | false =>
    rw [L0c] at hx; subst hx; simp -implicitDefEqProofs (disch := omega) only [go_sem, results64]
  | true =>
  rw [L0k] at hx; simp -implicitDefEqProofs (disch := omega) only [go_sem]
  refine Jaa d2 ?_
  cases b2 with
  | false =>
    rw [L0c] at hx; subst hx; simp -implicitDefEqProofs (disch := omega) only [go_sem, results64]
  | true =>
  rw [L0k] at hx; simp -implicitDefEqProofs (disch := omega) only [go_sem]
  refine Jaa d3 ?_
  cases b3 with
  | false =>
    rw [L0c] at hx; subst hx; simp -implicitDefEqProofs (disch := omega) only [go_sem, results64]
  | true =>
  rw [L0k] at hx; simp -implicitDefEqProofs (disch := omega) only [go_sem]
  refine Jag (fun n E σ => ∃ (i : Nat) (last : Int × Int), i + n = hops.length /\ z = (JgK ups.length last (hops.drop i) && Jfv hops 0 legs) /\ E 1 = .ptr 136314896 13 0 0 /\ E 4 = .mp ((mI N).map entS) /\ E 6 = .ptr 136314976 2 0 0 /\ E 77 = HPS hops /\ E 78 = I hops.length /\ E 79 = I i /\
    σ 136314896 = some ⟨52, 13, [.agg [HPS hops, LGS legs, CKS cks, TFS tfs, SL offs, Str key, I pc, I pn, Str pr, Str ps, ITS pl, Str call, SLs ups]]⟩ /\ σ 136314976 = some ⟨88, 2, [.agg [I last.1, I last.2]]⟩) hops.length ⟨0, (-1, 0), by omega, hx, ?_⟩ ?_
  . simp -implicitDefEqProofs (disch := omega) only [go_sem]; try rfl
  clear hx
  rintro n E σ ⟨i, ⟨la, lb⟩, hi, hx, e1, e4, e6, e77, e78, e79, m1, m6⟩
  simp -implicitDefEqProofs (disch := omega) only [go_sem, e1, e4, e6, e77, e78, e79, m1, m6]
  refine Jab (fun hc => ?_) (fun hc => ?_)
  . have hil : i < hops.length := by omega
    rw [JaU hops i hil, JgK, L1r] at hx; generalize hh : gd hops i = h at *; obtain ⟨ha, hb⟩ := h
    simp only at *
    simp -implicitDefEqProofs (disch := omega) only [go_sem, hh, e1, e4, e6, e77, e78, e79, m1, m6]
    refine Jaa (Jdc ha) ?_
    by_cases q1 : 0 <= ha /\ ha <= 7
    rotate_left
    . rw [decide_eq_false (by omega), L0c] at hx
      rw [decide_eq_false q1]; subst hx; simp -implicitDefEqProofs (disch := omega) only [go_sem, hh, e1, e4, e6, e77, e78, e79, m1, m6, results64]
    rw [decide_eq_true q1]; simp -implicitDefEqProofs (disch := omega) only [go_sem, hh, e1, e4, e6, e77, e78, e79, m1, m6]
    refine Jab (fun q2 => ?_) (fun q2 => ?_)
    . rw [decide_eq_false (by omega), L0c] at hx
      subst hx; simp -implicitDefEqProofs (disch := omega) only [go_sem, hh, q2, e1, e4, e6, e77, e78, e79, m1, m6, results64]
    simp -implicitDefEqProofs (disch := omega) only [go_sem, hh, e1, e4, e6, e77, e78, e79, m1, m6]
    refine Jaa (Jdd hb lb 29) ?_
    by_cases q3 : lb <= hb /\ hb <= 29
    rotate_left
    . rw [decide_eq_false (by omega), L0c] at hx
      rw [decide_eq_false q3]; subst hx; simp -implicitDefEqProofs (disch := omega) only [go_sem, hh, e1, e4, e6, e77, e78, e79, m1, m6, results64]
    rw [decide_eq_true q3]; simp -implicitDefEqProofs (disch := omega) only [go_sem, hh, e1, e4, e6, e77, e78, e79, m1, m6]
    refine Jab (fun q4 => ?_) (fun q4 => ?_)
    . rw [decide_eq_false (by omega), L0c] at hx
      subst hx; simp -implicitDefEqProofs (disch := omega) only [go_sem, hh, q4, e1, e4, e6, e77, e78, e79, m1, m6, results64]
    rw [decide_eq_true (by omega), L0k] at hx
    simp -implicitDefEqProofs (disch := omega) only [go_sem, hh, e1, e4, e6, e77, e78, e79, m1, m6]
    refine Jae (hops.length - (i + 1)) (by omega) ⟨i + 1, (ha, hb), by omega, hx, ?_⟩
    simp -implicitDefEqProofs (disch := omega) only [go_sem, hh, e1, e4, e6, e77, e78, e79, m1, m6]; try rfl
  obtain rfl : i = hops.length := by omega
  rw [L0H, JgK, L0k] at hx; simp -implicitDefEqProofs (disch := omega) only [go_sem, e1, e4, e6, e77, e78, e79, m1, m6]; clear e6 e77 e78 e79 m6 hc hi
  have hx0 : z = Jfv hops 0 (legs.drop 0) := hx
  refine Jag (fun n E σ => ∃ (i : Nat), i + n = legs.length /\ z = Jfv hops i (legs.drop i) /\ E 1 = .ptr 136314896 13 0 0 /\ E 4 = .mp ((mI N).map entS) /\ E 113 = LGS legs /\ E 114 = I legs.length /\ E 115 = I i /\
    σ 136314896 = some ⟨52, 13, [.agg [HPS hops, LGS legs, CKS cks, TFS tfs, SL offs, Str key, I pc, I pn, Str pr, Str ps, ITS pl, Str call, SLs ups]]⟩) legs.length ⟨0, by omega, hx0, ?_⟩ ?_
  . simp -implicitDefEqProofs (disch := omega) only [go_sem, e1, e4, m1]; try rfl
  clear hx hx0 e1 e4 m1 E σ n
  rintro n E σ ⟨i, hi, hx, e1, e4, e113, e114, e115, m1⟩
  simp -implicitDefEqProofs (disch := omega) only [go_sem, e1, e4, e113, e114, e115, m1]
  refine Jab (fun hc => ?_) (fun hc => ?_)
  . have hil : i < legs.length := by omega
    have hih : i + 1 < hops.length := by omega
    rw [JaU legs i hil, Jfv, L1r] at hx; have c3 := Jgb (gd legs i); generalize hll : gd legs i = l at *; generalize legF l = b at *; obtain ⟨lf, lt, lg, lk⟩ := l
    simp only at *
    simp -implicitDefEqProofs (disch := omega) only [go_sem, hll, e1, e4, e113, e114, e115, m1]
    refine Jaa c3 ?_
    cases b with
    | false =>
      rw [L0c] at hx; subst hx; simp -implicitDefEqProofs (disch := omega) only [go_sem, hll, e1, e4, e113, e114, e115, m1, results64]
    | true =>
    rw [L0k] at hx
    have hii : ((i : Int) + 1).toNat = i + 1 := by omega
    simp -implicitDefEqProofs (disch := omega) only [go_sem, hll, e1, e4, e113, e114, e115, m1, hii]
    refine Jab (fun q1 => ?_) (fun q1 => ?_)
    . rw [decide_eq_false (by omega), L0c] at hx
      subst hx; simp -implicitDefEqProofs (disch := omega) only [go_sem, hll, q1, e1, e4, e113, e114, e115, m1, hii, results64]
    simp -implicitDefEqProofs (disch := omega) only [go_sem, hll, e1, e4, e113, e114, e115, m1, hii]
    refine Jab (fun q2 => ?_) (fun q2 => ?_)
    . rw [decide_eq_false (by omega), L0c] at hx
      subst hx; simp -implicitDefEqProofs (disch := omega) only [go_sem, hll, q2, e1, e4, e113, e114, e115, m1, hii, results64]
    rw [decide_eq_true (by omega), L0k] at hx
    simp -implicitDefEqProofs (disch := omega) only [go_sem, hll, e1, e4, e113, e114, e115, m1, hii]
    refine Jae (legs.length - (i + 1)) (by omega) ⟨i + 1, by omega, hx, ?_⟩
    simp -implicitDefEqProofs (disch := omega) only [go_sem, hll, e1, e4, e113, e114, e115, m1, hii]; try rfl
  obtain rfl : i = legs.length := by omega
  rw [L0H, Jfv] at hx; subst hx; simp -implicitDefEqProofs (disch := omega) only [go_sem, e1, e4, e113, e114, e115, m1, results64]
theorem JkZ (t : Tp) (ht : t.ok) (h : Jc5 t = true) : Ev prog 64 [TPP t] (.tup [.pt (TRP t) 0, I 0]) := by
  have := Jl6 t ht
  rw [h] at this
  exact Jhs (r := .tup [.nptr 190 14 [TRP t], I 0]) this _
theorem Jrr (t : Tp) (ht : t.ok) (h : Jc5 t = false) : Ev prog 64 [TPP t] (.tup [.v (.pointer none), I 380]) := by
  have := Jl6 t ht
  rw [h] at this; exact this
theorem JaO {t : Tp} : Jc5 t = true ↔ Jb4 t.key t.part = true /\ ((1 <= t.hops.length /\ t.hops.length <= 12) /\ t.legs.length = t.hops.length - 1 /\ t.cks.length = 8 /\ t.tfs.length = 8 /\ t.offs.length = 8 /\ t.ups.length <= 30) /\
    t.cks.all Jb5 = true /\ t.tfs.all JbG = true /\ t.offs.all Jdr = true /\ JgK t.ups.length (-1, 0) t.hops = true /\ Jfv t.hops 0 t.legs = true := by
  unfold Jc5; simp only [L00, decide_eq_true_iff]
theorem Jmo {t : Tp} (h : Jc5 t = true) {i : Nat} (hi : i < t.hops.length) : (0 <= (gd t.hops i).1 /\ (gd t.hops i).1 <= 7) /\ (0 <= (gd t.hops i).2 /\ (gd t.hops i).2 <= 29) /\ (gd t.hops i).2 < t.ups.length :=
  JoI t.ups.length t.hops (-1, 0) (JaO.1 h).2.2.2.2.2.1 i hi
theorem Jgg {t : Tp} (h : Jc5 t = true) {i : Nat} (hi : i < t.legs.length) : legF (gd t.legs i) = true /\ (gd t.legs i).f = (gd t.hops i).1 /\ (gd t.legs i).t = (gd t.hops (i + 1)).1 := by
  have := Jo0 t.hops t.legs 0 (JaO.1 h).2.2.2.2.2.2 i hi
  rw [L0q] at this; exact this
set_option maxHeartbeats 2000000 in
theorem Jl9 (t : Tp) (h : Jc5 t = true) (i : Nat) (hi : i < t.legs.length) : Ev prog 71 [.pt (TRP t) 0, I i] (I (payF t i)) := by
  have hl := (JaO.1 h).2.1
  have hh := fun i => Jmo h (i := i)
  have hp : payF t i = if i = 0 then (gd t.hops 0).1
    else if (gd t.hops (i - 1)).2 + 1 < t.ups.length /\ JaC (evF t.key t.part) (gd t.ups ((gd t.hops (i - 1)).2 + 1).toNat) t.call = 1 then (gd t.hops (i - 1)).1
    else (gd t.hops i).1 := rfl
  have c1 := Jis (evF t.key t.part) (gd t.ups ((gd t.hops (i - 1)).2 + 1).toNat) t.call
  obtain ⟨N, hN⟩ := JeP (evF t.key t.part)
  simp only [TRP] at *; rw [hN] at c1 ⊢; generalize payF t i = P at *; generalize JaC (evF t.key t.part) (gd t.ups ((gd t.hops (i - 1)).2 + 1).toNat) t.call = w at *
  obtain ⟨hops, legs, cks, tfs, offs, key, ⟨⟨pc, pn, pr, ps⟩, pl⟩, call, ups⟩ := t
  simp only at *
  clear hN h
  refine EV func71 ?_
  simp -implicitDefEqProofs (disch := omega) only [go_sem, ntmps71]
  refine Jab (fun h0 => ?_) (fun h0 => ?_)
  . obtain rfl : i = 0 := by omega
    rw [if_pos rfl] at hp
    have h00 : 0 < hops.length := by omega
    simp -implicitDefEqProofs (disch := omega) only [go_sem, hp, results71]; try rfl
  rw [if_neg (by omega)] at hp
  have hj : ((i : Int) - 1).toNat = i - 1 := by omega
  have hjl : i - 1 < hops.length := by omega
  have hil : i < hops.length := by omega
  obtain ⟨q1, q2, q3⟩ := hh _ hjl
  generalize hy : gd hops i = y at *; generalize hxx : gd hops (i - 1) = x at *; obtain ⟨xa, xb⟩ := x; obtain ⟨ya, yb⟩ := y
  simp only at *
  simp -implicitDefEqProofs (disch := omega) only [go_sem, hj, hy, hxx]
  refine Jab (fun h1 => ?_) (fun h1 => ?_)
  . have hv : (xb + 1).toNat < ups.length := by omega
    simp -implicitDefEqProofs (disch := omega) only [go_sem, hj, hy, hxx]
    refine Jaa c1 ?_
    simp -implicitDefEqProofs (disch := omega) only [go_sem, hj, hy, hxx]
    refine Jab (fun h2 => ?_) (fun h2 => ?_)
    . rw [if_pos ⟨h1, h2⟩] at hp; subst hp; simp -implicitDefEqProofs (disch := omega) only [go_sem, hj, hy, hxx, h2, results71]
    . rw [if_neg (fun h => h2 h.2)] at hp
      subst hp; simp -implicitDefEqProofs (disch := omega) only [go_sem, hj, hy, hxx, h2, results71]
  . rw [if_neg (fun h => h1 h.1)] at hp
    subst hp; simp -implicitDefEqProofs (disch := omega) only [go_sem, hj, hy, hxx, results71]
theorem JqD (t : Tp) : Ev prog 66 [.pt (TRP t) 0] (.clo 110 [.pt (.pt (TRP t) 0) 0]) := by
  refine Jhs (r := .clo 110 [.nptr 135 1 [.pt (TRP t) 0]]) ?_ _
  refine EV func66 ?_
  simp -implicitDefEqProofs (disch := omega) only [go_sem, ntmps66, results66]
abbrev BLP (b : Bl) : AV := .agg [I b.p, I b.q, I b.f, I b.t, I b.a]
abbrev BLS (l : List Bl) : AV := .sl 5 (l.map BLP)
abbrev BW (b : Bl) : List AV := [BLP b]
section
variable (p : Nat -> Bool) (l : List Bl)
@[go_sem] theorem JvN : AV.namesL p (l.map BLP) = false := Jal p l BLP fun _ => rfl
@[go_sem] theorem Jxq : AV.flatL (l.map BLP) = true := Jbi l BLP fun _ => rfl
@[go_sem] theorem Jwt : JbS 5 (l.map BLP) = true := JaI 5 l BLP fun _ => ⟨rfl, rfl⟩
end
@[go_sem] theorem Ju4 (l : List Bl) (a b c d e : Int) : l.map BLP ++ [.agg [.v (.int .i64 a), .v (.int .i64 b), .v (.int .i64 c), .v (.int .i64 d), .v (.int .i64 e)]] = (l ++ [(⟨a, b, c, d, e⟩ : Bl)]).map BLP := by simp
theorem JgT (p : Nat -> Bool) (l : List Bl) : AV.namesL p ((l.map BW).map .tup) = false := by
  induction l with
  | nil => rfl
  | cons q l ih =>
    show AV.namesL p (.tup (BW q) :: (l.map BW).map .tup) = false
    simp only [go_sem, ih]
    first | done | simp
attribute [go_sem] JgT
@[go_sem] theorem JvO (p : Nat -> Bool) (l : List Bl) : AV.namesL p (l.map (AV.tup ∘ BW)) = false := by
  rw [<- L19]; exact JgT p l
abbrev TRQ (t : Tp) (N : List (ByteArray × Nat)) : AV := .agg [HPS t.hops, LGS t.legs, CKS t.cks, TFS t.tfs, SL t.offs, Str t.key, I t.part.h.c, I t.part.h.n, Str t.part.h.r, Str t.part.h.s, ITS t.part.l, Str t.call, SLs t.ups, .mp ((mI N).map entS)]
instance plainZ (P : Program) (f N l : Nat) (bad : List Nat) : Plain (spZ P f N l bad) := ⟨Jmj P f N l bad⟩
set_option maxHeartbeats 8000000 in
theorem JnT (t : Tp) (ht : t.ok) (h : Jc5 t = true) : SOK prog 110 [.pt (.pt (TRP t) 0) 0] (stO []) ((Jbs t).map BW) := by
  have hl := (JaO.1 h).2.1
  obtain ⟨_, _, hcl, htl, hol, _, _⟩ := JaO.1 h
  have hleg := fun i => Jgg h (i := i)
  have hpay := fun i hi => Jl9 t h i hi
  have hbl := Jbk t
  have hbg := fun i hi => Jcj t (i := i) hi
  have hdef : ∀ i, JqB t i = ⟨payF t i, (gd t.legs i).t, (Jdf t (gd t.legs i)).1.1, (Jdf t (gd t.legs i)).1.2, amtF (gd t.tfs (gd t.legs i).t.toNat) (gd t.offs (gd t.legs i).t.toNat) (Jdf t (gd t.legs i)).1.1 (Jdf t (gd t.legs i)).1.2⟩ := fun i => rfl
  have hbill : ∀ l : Lg, legF l = true -> Ev prog 76 [.mp ((evM (evF t.key t.part)).map entS), CKP (gd t.cks l.f.toNat), CKP (gd t.cks l.t.toNat), LGP l] (biV (Jdf t l)) := fun l hl' => by
    obtain ⟨⟨f1, f2, f3⟩, _⟩ := JbN.1 hl'
    exact Jje (evF t.key t.part) _ _ l hl' (ht.rds _ (Jas _ _ (by omega))) (ht.rds _ (Jas _ _ (by omega)))
  have hsp : ∀ l : Lg, Jfc (Jdf t l).1.1 (Jdf t l).1.2 = true := fun l => (JnS _ _ _ l).1
  have hgood := ht.good
  have hzone : ∀ n ∈ t.offs, Jdr n = true := L0b.1 hol
  obtain ⟨N, hN⟩ := JeP (evF t.key t.part)
  simp only [TRP] at *; rw [hN] at hpay hbill ⊢
  have hpay : ∀ i, i < t.legs.length -> Ev prog 71 [.pt (TRQ t N) 0, I i] (I (payF t i)) := hpay
  show SOK _ _ [.pt (.pt (TRQ t N) 0) 0] _ _
  generalize Jbs t = L at *; generalize Jdf t = LB at *; generalize JqB t = BF at *; generalize payF t = PF at *; clear hN h ht hcl htl hol
  refine JuG [4, 5] func110 rfl (by kernel_rfl) mo (nb rfl) rfl ?_ rfl fun y => ?_
  . exact JgT allB _
  have h0 : ((L.map BW).map AV.tup) = ((L.drop 0).map BW).map AV.tup := rfl
  simp -implicitDefEqProofs (disch := omega) only [go_sem, ntmps110]; rw [h0]
  refine Jag (fun n E σ => ∃ (i : Nat), i + n = t.legs.length /\ E 0 = .yld y /\ E 1 = .pt (.pt (TRQ t N) 0) 0 /\ E 10 = LGS t.legs /\ E 11 = I t.legs.length /\ E 12 = I i /\ E 81 = .tup (((L.drop i).map BW).map .tup)) t.legs.length ⟨0, by omega, ?_⟩ ?_
  . simp -implicitDefEqProofs (disch := omega) only [go_sem]; try rfl
  rintro n E σ ⟨i, hi, e0, e1, e10, e11, e12, e81⟩
  simp -implicitDefEqProofs (disch := omega) only [go_sem, e0, e1, e10, e11, e12, e81]
  refine Jab (fun hc => ?_) (fun hc => ?_)
  . have hil : i < t.legs.length := by omega
    obtain ⟨g1, g2, g3⟩ := hleg i hil
    have a1 := hpay i hil; have a2 := hbill (gd t.legs i) g1; have a3 := hsp (gd t.legs i); have a4 := hdef i
    obtain ⟨⟨f1, f2, f3⟩, _⟩ := JbN.1 g1
    rw [JaU L i (by omega), hbg i hil, a4] at e81
    have a5 := Jgn (gd t.tfs (gd t.legs i).t.toNat) (gd t.offs (gd t.legs i).t.toNat) _ _ (hgood _ (Jas _ _ (by omega))) (hzone _ (Jas _ _ (by omega))) a3
    have b1 : (gd t.legs i).f.toNat < t.cks.length := by omega
    have b2 : (gd t.legs i).t.toNat < t.cks.length := by omega
    have b3 : (gd t.legs i).t.toNat < t.tfs.length := by omega
    have b4 : (gd t.legs i).t.toNat < t.offs.length := by omega
    clear a4 hdef hbill hpay hsp hleg g1 g2 g3; generalize hW : LB (gd t.legs i) = W at *; generalize PF i = P at *; generalize hA : amtF (gd t.tfs (gd t.legs i).t.toNat) (gd t.offs (gd t.legs i).t.toNat) W.1.1 W.1.2 = A at *; generalize hlg : gd t.legs i = l at *; obtain ⟨lf, lt, lg, lk⟩ := l
    obtain ⟨⟨w1, w2⟩, w3⟩ := W
    simp only at *
    clear hW hA; simp -implicitDefEqProofs (disch := omega) only [go_sem, e0, e1, e10, e11, e12, e81, hlg]
    refine Jaa a1 ?_
    simp -implicitDefEqProofs (disch := omega) only [go_sem, e0, e1, e10, e11, e12, e81, hlg]
    refine Jcu Plain.mono ?_
    simp -implicitDefEqProofs (disch := omega) only [go_sem, e0, e1, e10, e11, e12, e81, hlg, false_and, and_self]
    refine Jaa a2 ?_
    simp -implicitDefEqProofs (disch := omega) only [go_sem, e0, e1, e10, e11, e12, e81, hlg, false_and, and_self]
    refine Jcu Plain.mono ?_
    simp -implicitDefEqProofs (disch := omega) only [go_sem, e0, e1, e10, e11, e12, e81, hlg, false_and, and_self]
    refine Jaa a5 ?_
    simp -implicitDefEqProofs (disch := omega) only [go_sem, e0, e1, e10, e11, e12, e81, hlg, false_and, and_self]
    refine ⟨?_, .inr trivial⟩
    refine Jae (t.legs.length - (i + 1)) (by omega) ⟨i + 1, by omega, ?_⟩
    simp -implicitDefEqProofs (disch := omega) only [go_sem, e0, e1, e10, e11, e12, e81]; try rfl
  . obtain rfl : i = t.legs.length := by omega
    rw [<- hbl, L0H] at e81
    have e81 : E 81 = .tup [] := e81
    simp -implicitDefEqProofs (disch := omega) only [go_sem, e81]
    exact .inl trivial
set_option maxHeartbeats 2000000 in
theorem Ji9 (X : AV) (L : List Bl) (hX : ∀ p, AV.namesL p [.pt X 0] = false) (hs : SOK prog 110 [.pt X 0] (stO []) (L.map BW)) (hn : L.length <= 1000) :
    Ev prog 109 [.v (.slice none 0 0), .clo 110 [.pt X 0]] (BLS L) := by
  refine EW [1, 4] func109 ?_
  simp -implicitDefEqProofs (disch := omega) only [go_sem, ntmps109, hX]
  refine Jbp 230686752 230686753 0 0 86 5 (k := ⟨70, 1, [.v (.slice none 0 0)]⟩) (el := .v (.slice none 0 0)) (by simp -implicitDefEqProofs (disch := omega) only [go_sem]) (by decide) rfl rfl (by simp) (by simp -implicitDefEqProofs (disch := omega) only [go_sem]) rfl ?_
  refine Je6 Plain.mono ?_
  simp -implicitDefEqProofs (disch := omega) only [go_sem, hX]
  refine Jcb ?_
  refine Jd4 [] [230686752] 14418020 (L.map BW)
    (fun xs σ => ∃ (o r : List Bl) (x : Nat), L = o ++ r /\ xs = r.map BW /\ x = 230686753 /\ σ 230686752 = some ⟨70, 1, [.own x 5 0 o.length]⟩ /\ σ x = some ⟨86, 5, o.map BLP⟩)
    (g := 110) (caps := [.pt X 0]) ?_ ?_ ?_ ?_ ?_ ?_ ?_ ?_
  . simp -implicitDefEqProofs (disch := omega) only [go_sem]
  . rw [JjS]; exact hs
  . intro x hx
    obtain ⟨y, _, rfl⟩ := L06.1 hx
    rfl
  . exact hX _
  . simp -implicitDefEqProofs (disch := omega) only [go_sem]
  . refine ⟨[], L, _, rfl, rfl, rfl, ?_⟩
    simp -implicitDefEqProofs (disch := omega) only [go_sem, hX]
    try exact ⟨rfl, rfl⟩
  . rintro E0 hE0 y rest σ' ⟨o, r, x, hL, hxs, hx, m2, mx⟩
    have e2 : E0 2 = .ptr 230686752 1 0 0 := by rw [hE0]; simp -implicitDefEqProofs (disch := omega) only [go_sem]
    clear hE0
    obtain ⟨q, r', rfl, rfl, rfl⟩ : ∃ q r', r = q :: r' /\ y = BW q /\ rest = r'.map BW := by
      cases r with
      | nil => cases hxs
      | cons q r' => simp only [L0n, List.cons.injEq] at hxs; exact ⟨q, r', rfl, hxs.1, hxs.2⟩
    have hol : o.length + 1 <= 1000 := by rw [hL, L08, L0f] at hn; omega
    generalize hR : rQ _ _ E0 _ = R
    have hK : ∀ (E : Env) (σ : Jac) (x' : Nat), x' = 230686753 -> σ 230686752 = some ⟨70, 1, [.own x' 5 0 (o.length + 1)]⟩ -> σ x' = some ⟨86, 5, (o ++ [q]).map BLP⟩ -> R .normal E σ := by
      intro E σ x' q1 q2 q3
      rw [<- hR]
      refine ⟨inL [], fun _ _ => rfl, ?_⟩
      rw [Jco]
      exact ⟨o ++ [q], r', x', by rw [hL, L0O]; rfl, rfl, q1, by rw [L08]; exact q2, q3⟩
    clear hR hL; obtain ⟨qa, qb, qc, qd, qe⟩ := q
    have hqt : o.take o.length = o := L0d
    have hx0 := hx; subst hx; simp -implicitDefEqProofs (disch := omega) only [go_sem, e2, m2, mx, hqt]
    refine hK _ _ _ hx0 ?_ ?_
    . simp -implicitDefEqProofs (disch := omega) only [go_sem, m2, hqt]
    . simp -implicitDefEqProofs (disch := omega) only [go_sem, mx, hqt]
  . rintro E0 hE0 σ' ⟨o, r, x, hL, hxs, hx, m2, mx⟩
    have e2 : E0 2 = .ptr 230686752 1 0 0 := by rw [hE0]; simp -implicitDefEqProofs (disch := omega) only [go_sem]
    clear hE0
    obtain rfl : r = [] := by
      cases r with
      | nil => rfl
      | cons q r' => cases hxs
    rw [L0F] at hL; subst hL
    have hqt : L.take L.length = L := L0d
    subst hx; simp -implicitDefEqProofs (disch := omega) only [go_sem, e2, m2, mx]
    refine JaK Plain.mono [230686752, 230686753] ?_
    simp -implicitDefEqProofs (disch := omega) only [go_sem, e2, m2, mx, hqt, L05]; simp -implicitDefEqProofs (disch := omega) only [go_sem, e2, m2, mx, hqt, L05, results109]
theorem JmJ (X : AV) (L : List Bl) (hX : ∀ p, AV.namesL p [.pt X 0] = false) (hXr : ∀ σ, [AV.pt X 0].map (res σ) = [.pt X 0]) (hs : SOK prog 110 [.pt X 0] (stO []) (L.map BW)) (hn : L.length <= 1000) :
    Ev prog 65 [.clo 110 [.pt X 0]] (BLS L) := by
  have c := Ji9 X L hX hs hn
  refine EV func65 ?_
  simp -implicitDefEqProofs (disch := omega) only [go_sem, ntmps65, hX, hXr]
  refine Jaa c ?_
  simp -implicitDefEqProofs (disch := omega) only [go_sem, results65]
theorem JeJ (t : Tp) (ht : t.ok) (h : Jc5 t = true) : Ev prog 23 [TPP t] (.tup [BLS (Jbs t), I 0]) := by
  have c1 := JkZ t ht h; have c2 := JqD t; have hs := JnT t ht h
  have hlen : (Jbs t).length <= 1000 := by
    have := (JaO.1 h).2.1
    rw [Jbk]; omega
  obtain ⟨N, hN⟩ := JeP (evF t.key t.part)
  simp only [TRP] at *; rw [hN] at c1 c2 hs; generalize Jbs t = L at *
  obtain ⟨hops, legs, cks, tfs, offs, key, ⟨⟨pc, pn, pr, ps⟩, pl⟩, call, ups⟩ := t
  simp only at *
  have c3 := JmJ _ L (fun p => by simp only [go_sem]) (fun σ => by simp only [go_sem]) hs hlen
  clear hs hN h ht
  refine EV func23 ?_
  simp -implicitDefEqProofs (disch := omega) only [go_sem, ntmps23]
  refine Jaa c1 ?_
  simp -implicitDefEqProofs (disch := omega) only [go_sem]
  refine Jaa c2 ?_
  simp -implicitDefEqProofs (disch := omega) only [go_sem]
  refine Jaa c3 ?_
  simp -implicitDefEqProofs (disch := omega) only [go_sem, results23]
abbrev payV (t : Tp) (i : Int) : AV := if Jc5 t = true /\ (0 <= i /\ i <= (t.legs.length : Int) - 1) then .tup [I (payF t i.toNat), I 0] else .tup [I 0, I 380]
theorem Je2 (t : Tp) (ht : t.ok) (i : Int) : Ev prog 26 [TPP t, I i] (payV t i) := by
  have c2 := Jdd i 0 ((t.legs.length : Int) - 1)
  by_cases h : Jc5 t = true
  . by_cases hi : 0 <= i /\ i <= (t.legs.length : Int) - 1
    . have c1 := JkZ t ht h
      obtain ⟨k, rfl⟩ := L1W hi.1
      have c3 := Jl9 t h k (by omega)
      rw [payV, if_pos ⟨h, hi⟩, L18]; rw [decide_eq_true hi] at c2
      obtain ⟨N, hN⟩ := JeP (evF t.key t.part)
      simp only [TRP] at *; rw [hN] at c1 c3; generalize payF t k = P at *
      obtain ⟨hops, legs, cks, tfs, offs, key, ⟨⟨pc, pn, pr, ps⟩, pl⟩, call, ups⟩ := t
      have ol := ht.legs
      simp only at *
      refine EV func26 ?_
      simp -implicitDefEqProofs (disch := omega) only [go_sem, ntmps26]
      refine Jaa c1 ?_
      simp -implicitDefEqProofs (disch := omega) only [go_sem]
      refine Jaa c2 ?_
      simp -implicitDefEqProofs (disch := omega) only [go_sem]
      refine Jaa c3 ?_
      simp -implicitDefEqProofs (disch := omega) only [go_sem, results26]
    . have c1 := JkZ t ht h
      rw [payV, if_neg (fun hh => hi hh.2)]
      rw [decide_eq_false hi] at c2
      obtain ⟨N, hN⟩ := JeP (evF t.key t.part)
      simp only [TRP] at *; rw [hN] at c1
      obtain ⟨hops, legs, cks, tfs, offs, key, ⟨⟨pc, pn, pr, ps⟩, pl⟩, call, ups⟩ := t
      have ol := ht.legs
      simp only at *
      refine EV func26 ?_
      simp -implicitDefEqProofs (disch := omega) only [go_sem, ntmps26]
      refine Jaa c1 ?_
      simp -implicitDefEqProofs (disch := omega) only [go_sem]
      refine Jaa c2 ?_
      simp -implicitDefEqProofs (disch := omega) only [go_sem, results26]
  . have c1 := Jrr t ht (by simpa using h)
    rw [payV, if_neg (fun hh => h hh.1)]
    refine EV func26 ?_
    simp -implicitDefEqProofs (disch := omega) only [go_sem, ntmps26]
    refine Jaa c1 ?_
    simp -implicitDefEqProofs (disch := omega) only [go_sem, results26]
theorem JBv (p : Pt) : AV.dn (shV (some p)) = false := by
  have h : AV.dnL (p.l.map ITP) = false := JdB ITP (fun x => by simp only [AV.dn, AV.dnL, JdB _ (fun x => AV.dn.eq_2 _), L11]) p.l
  simp [AV.dn, AV.dnL, h]
abbrev TPZ (hops : List (Int × Int)) (legs : List Lg) (cks : List Ck) (tfs : List Tf) (offs : List Int) (key call : ByteArray) (ups : List ByteArray) : AV :=
  .agg [HPS hops, LGS legs, CKS cks, TFS tfs, SL offs, Str key, I 0, I 0, .v (.string ByteArray.empty), .v (.string ByteArray.empty), .v (.slice none 0 0), Str call, SLs ups]
def witL (call : ByteArray) (ups : List ByteArray) (legs : List Lg) (w : List Int) (i : Nat) : List ByteArray := (w.take i).map (witE call ups legs)
theorem Jr3 (call : ByteArray) (ups : List ByteArray) (legs : List Lg) (w : List Int) (i : Nat) (h : i <= w.length) : (witL call ups legs w i).length = i := by
  unfold witL; rw [L05, L02]; omega
theorem Jqe (call : ByteArray) (ups : List ByteArray) (legs : List Lg) (w : List Int) (i : Nat) (h : i < w.length) : witL call ups legs w (i + 1) = witL call ups legs w i ++ [witE call ups legs (gd w i)] := by
  unfold witL; rw [JuM w i h, L14]; rfl
def wiI (T : AV) (w : List Int) (W : List ByteArray) (L : List Int) (i : Nat) (E : Env) (σ : Jac) : Prop :=
  E 1 = SL w /\ E 2 = .ptr 113246240 13 0 0 /\ E 4 = .ptr 113246272 5 0 0 /\ E 5 = .ptr 113246288 2 0 0 /\ E 6 = .own 113246304 1 0 L.length /\ E 7 = I i /\
  σ 113246240 = some ⟨52, 13, [T]⟩ /\ σ 113246272 = some ⟨49, 5, [zP]⟩ /\ σ 113246288 = some ⟨90, 2, [.agg [I 0, .own 113246289 1 0 W.length]]⟩ /\
  σ 113246289 = some ⟨9, 1, W.map Str⟩ /\ σ 113246304 = some ⟨3, 1, L.map I⟩
set_option maxHeartbeats 4000000 in
theorem Jnw (hops : List (Int × Int)) (legs : List Lg) (cks : List Ck) (tfs : List Tf) (offs : List Int) (call : ByteArray) (n : Nat) (w : List Int) (hw : ∀ x ∈ w, R64 x) (hwl : w.length <= 9223372036854775807) (hn : 0 < n) (hn2 : n <= 1000) (hll : legs.length <= 1000) (hleg : ∀ i, i < legs.length -> legF (gd legs i) = true) :
    Ev prog 53 [TPZ hops legs cks tfs offs (keyS 0) JaN (upsN n), SL w] (PTP (witP JaN (upsN n) legs w)) := by
  have hsh := Ji3 n legs w; have hul := Jcx n; have hl12 := Jgj w
  have d2 := JrK (keyS 0) (witR JaN (upsN n) legs w) ((min w.length 12 : Nat) : Int) (witN w (min w.length 12)) (by simp only [witR, L05, L02]; omega) (by have := hl12 (min w.length 12); omega) (fun x hx => by
    have := Jlo w _ x hx
    constructor <;> omega)
  rw [hsh] at d2
  have hWL : witR JaN (upsN n) legs w = ⟨0, witL JaN (upsN n) legs w (min w.length 12)⟩ := by
    unfold witR witL
    congr 2
    by_cases h : w.length <= 12
    . rw [L09 h, show min w.length 12 = w.length by omega, L0d]
    . rw [show min w.length 12 = 12 by omega]
  rw [hWL] at d2; have hws := Jqe JaN (upsN n) legs w; have hwl2 := Jr3 JaN (upsN n) legs w
  have hnl : ∀ i, (witN w i).length <= i := Jgj w
  have hns : ∀ i, witN w (i + 1) = witN w i ++ if Jad ((gd w i).tdiv 128) 8 ≠ 7 then [(i : Int)] else [] := fun i => rfl
  have hE : ∀ x, witE JaN (upsN n) legs x = if Jad x 3 = 1 then gd (upsN n) (Jad (x.tdiv 3) (upsN n).length).toNat else if Jad x 3 = 2 /\ legs ≠ [] then recF (gd legs (Jad (x.tdiv 6) legs.length).toNat) (1 + Jad (x.tdiv 3) 2) else JaN := fun x => rfl
  have hw0 : witL JaN (upsN n) legs w 0 = [] := rfl
  have hn0 : witN w 0 = [] := rfl
  have k1 := JlS; rw [<- JoV] at k1; clear hsh hWL hl12; generalize witP JaN (upsN n) legs w = PT at *; generalize witL JaN (upsN n) legs w = W at *; generalize witN w = L at *; generalize witE JaN (upsN n) legs = WE at *; generalize upsN n = ups at *; generalize keyS 0 = KEY at *
  obtain ⟨⟨pc, pn, pr, ps⟩, pl⟩ := PT
  refine EW [2, 15] func53 ?_
  simp -implicitDefEqProofs (disch := omega) only [go_sem, ntmps53]
  refine Jbp 113246288 113246289 0 1 9 1 (k := ⟨90, 2, [.agg [I 0, .v (.slice none 0 0)]]⟩) (el := .agg [I 0, .v (.slice none 0 0)]) (by simp -implicitDefEqProofs (disch := omega) only [go_sem]) (by decide) rfl rfl (by simp) (by simp -implicitDefEqProofs (disch := omega) only [go_sem]) rfl ?_
  refine Je6 Plain.mono ?_
  simp -implicitDefEqProofs (disch := omega) only [go_sem]
  refine JjG 0 (fun E σ => wiI (TPZ hops legs cks tfs offs KEY JaN ups) w (W (min w.length 12)) (L (min w.length 12)) (min w.length 12) E σ) ?_ ?_
  rotate_left
  . rintro E σ ⟨e1, e2, e4, e5, e6, e7, m2, m4, m5, mW, mL⟩
    have hWi := hwl2 (min w.length 12) (by omega)
    clear hws hns hE hwl2 hnl; generalize W (min w.length 12) = Wm at *; generalize L (min w.length 12) = Lm at *
    have q1 : Wm.take (min w.length 12) = Wm := L09 (by omega)
    have q2 : Lm.take Lm.length = Lm := L0d
    simp -implicitDefEqProofs (disch := omega) only [go_sem, e1, e2, e4, e5, e6, e7, m2, m4, m5, mW, mL]
    refine JkI [113246289, 113246304] ?_
    simp -implicitDefEqProofs (disch := omega) only [go_sem, e1, e2, e4, e5, e6, e7, m2, m4, m5, mW, mL, q1, q2, hWi, L05, false_and, and_self]
    refine Jaa k1 ?_
    simp -implicitDefEqProofs (disch := omega) only [go_sem, e1, e2, e4, e5, e6, e7, m2, m4, m5, mW, mL, q1, q2, hWi, L05, false_and, and_self]
    refine Jaa d2 ?_ (h4 := .inr (JBv ⟨⟨pc, pn, pr, ps⟩, pl⟩))
    simp -implicitDefEqProofs (disch := omega) only [go_sem, e1, e2, e4, e5, e6, e7, m2, m4, m5, mW, mL, q1, q2, hWi, L05, false_and, and_self, results53]
  refine Jag (fun k E σ => ∃ i : Nat, i + k = 12 /\ i <= w.length /\ wiI (TPZ hops legs cks tfs offs KEY JaN ups) w (W i) (L i) i E σ) 12 ⟨0, by omega, by omega, ?_⟩ ?_
  . simp -implicitDefEqProofs (disch := omega) only [go_sem, wiI, hw0, hn0, false_and]; try rfl
  rintro k E σ ⟨i, hk, hiw, e1, e2, e4, e5, e6, e7, m2, m4, m5, mW, mL⟩
  simp -implicitDefEqProofs (disch := omega) only [go_sem, e1, e2, e4, e5, e6, e7, m2, m4, m5, mW, mL]
  refine Jab (fun hc => ?_) (fun hc => ?_)
  rotate_left
  . obtain rfl : i = min w.length 12 := by omega
    simp -implicitDefEqProofs (disch := omega) only [go_sem, wiI, e1, e2, e4, e5, e6, e7, m2, m4, m5, mW, mL]; try rfl
  simp -implicitDefEqProofs (disch := omega) only [go_sem, e1, e2, e4, e5, e6, e7, m2, m4, m5, mW, mL]
  refine Jab (fun hc2 => ?_) (fun hc2 => ?_)
  rotate_left
  . obtain rfl : i = min w.length 12 := by omega
    simp -implicitDefEqProofs (disch := omega) only [go_sem, wiI, e1, e2, e4, e5, e6, e7, m2, m4, m5, mW, mL]; try rfl
  have hi12 : i < 12 := by omega
  have hil : i < w.length := by omega
  obtain ⟨r1, r2⟩ := hw _ (Jas w i hil)
  have hs1 := hws i hil; have hs2 := hns i; have hEi := hE (gd w i); have hWi := hwl2 i hiw; have hLi := hnl i; clear d2 hE hws hwl2 hnl hns hc hc2
  have c1 := JaE (gd w i) 3 ⟨r1, r2⟩ (by omega)
  have p1 := Jah (c := gd w i) (n := 3) (by omega)
  have rd3 := Jf6 (m := gd w i) (d := 3) (by omega) ⟨r1, r2⟩
  have rd6 := Jf6 (m := gd w i) (d := 6) (by omega) ⟨r1, r2⟩
  have rd128 := Jf6 (m := gd w i) (d := 128) (by omega) ⟨r1, r2⟩
  have c2 := JaE ((gd w i).tdiv 3) ups.length rd3 (by omega)
  have p2 := Jah (c := (gd w i).tdiv 3) (n := ups.length) (by omega)
  have c4 := JaE ((gd w i).tdiv 3) 2 rd3 (by omega)
  have p4 := Jah (c := (gd w i).tdiv 3) (n := 2) (by omega)
  have c5 := JaE ((gd w i).tdiv 128) 8 rd128 (by omega)
  generalize hWs : W (i + 1) = W' at *; generalize hLs : L (i + 1) = L' at *; generalize W i = Wi at *; generalize L i = Li at *
  have q1 : Wi.take Wi.length = Wi := L0d
  have q2 : Li.take Li.length = Li := L0d
  generalize WE (gd w i) = X at *; generalize hy3 : (gd w i).tdiv 3 = y3 at *; generalize hy6 : (gd w i).tdiv 6 = y6 at *; generalize hy128 : (gd w i).tdiv 128 = y128 at *; obtain ⟨u3, v3⟩ := rd3; obtain ⟨u6, v6⟩ := rd6; obtain ⟨u128, v128⟩ := rd128; generalize Jad (gd w i) 3 = p at *; generalize Jad y3 (ups.length : Int) = j at *; generalize Jad y3 2 = e at *; generalize Jad y128 8 = b at *; simp -implicitDefEqProofs (disch := omega) only [go_sem, e1, e2, e4, e5, e6, e7, m2, m4, m5, mW, mL]
  refine Jaa c1 ?_
  simp -implicitDefEqProofs (disch := omega) only [go_sem, e1, e2, e4, e5, e6, e7, m2, m4, m5, mW, mL]
  refine JbA (fun E σ => E 8 = Str X /\ wiI (TPZ hops legs cks tfs offs KEY JaN ups) w Wi Li i E σ) (fun h3 => ?_) (fun h3 => ?_) ?_
  . rw [if_pos h3] at hEi
    have hjl : j.toNat < ups.length := by omega
    simp -implicitDefEqProofs (disch := omega) only [go_sem, e1, e2, e4, e5, e6, e7, m2, m4, m5, mW, mL, hy3]
    refine Jaa c2 ?_
    simp -implicitDefEqProofs (disch := omega) only [go_sem, wiI, e1, e2, e4, e5, e6, e7, m2, m4, m5, mW, mL, hy3, hEi, false_and]; try rfl
  . rw [if_neg h3] at hEi; simp -implicitDefEqProofs (disch := omega) only [go_sem, e1, e2, e4, e5, e6, e7, m2, m4, m5, mW, mL]
    refine Jab (fun h4 => ?_) (fun h4 => ?_)
    rotate_left
    . rw [if_neg (fun h => h4 h.1)] at hEi
      simp -implicitDefEqProofs (disch := omega) only [go_sem, wiI, e1, e2, e4, e5, e6, e7, m2, m4, m5, mW, mL, hEi, false_and]; try rfl
    simp -implicitDefEqProofs (disch := omega) only [go_sem, e1, e2, e4, e5, e6, e7, m2, m4, m5, mW, mL]
    refine Jab (fun h5 => ?_) (fun h5 => ?_)
    rotate_left
    . have hnil : legs = [] := L0R (by omega)
      rw [if_neg (fun h => h.2 hnil)] at hEi
      simp -implicitDefEqProofs (disch := omega) only [go_sem, wiI, e1, e2, e4, e5, e6, e7, m2, m4, m5, mW, mL, hEi, false_and]; try rfl
    have hne : legs ≠ [] := fun h => by rw [h] at h5; exact absurd h5 (by decide)
    rw [if_pos ⟨h4, hne⟩] at hEi
    have c3 := JaE y6 legs.length ⟨u6, v6⟩ (by omega)
    have p3 := Jah (c := y6) (n := legs.length) (by omega)
    generalize Jad y6 (legs.length : Int) = v at *
    have hvl : v.toNat < legs.length := by omega
    have g1 := hleg v.toNat hvl; have c6 := Jut (gd legs v.toNat) (1 + e)
    have hrv : recV (gd legs v.toNat) (1 + e) = .tup [Str (recF (gd legs v.toNat) (1 + e)), I 0] := if_pos ⟨g1, by omega⟩
    rw [hrv] at c6; clear hrv; generalize recF (gd legs v.toNat) (1 + e) = RF at *; generalize hlv : gd legs v.toNat = l at *; obtain ⟨lf, lt, lg, lk⟩ := l; simp -implicitDefEqProofs (disch := omega) only [go_sem, e1, e2, e4, e5, e6, e7, m2, m4, m5, mW, mL, hy3, hy6]
    refine Jaa c3 ?_
    simp -implicitDefEqProofs (disch := omega) only [go_sem, e1, e2, e4, e5, e6, e7, m2, m4, m5, mW, mL, hy3, hy6, hlv]
    refine Jaa c4 ?_
    simp -implicitDefEqProofs (disch := omega) only [go_sem, e1, e2, e4, e5, e6, e7, m2, m4, m5, mW, mL, hy3, hy6, hlv]
    refine Jaa c6 ?_
    simp -implicitDefEqProofs (disch := omega) only [go_sem, wiI, e1, e2, e4, e5, e6, e7, m2, m4, m5, mW, mL, hy3, hy6, hEi, hlv, false_and]; try rfl
  clear e1 e2 e4 e5 e6 e7 m2 m4 m5 mW mL E σ hEi
  rintro E σ ⟨e8, e1, e2, e4, e5, e6, e7, m2, m4, m5, mW, mL⟩
  simp -implicitDefEqProofs (disch := omega) only [go_sem, e1, e2, e4, e5, e6, e7, e8, m2, m4, m5, mW, mL, q1, hWi, hy128, false_and]
  refine Jaa c5 ?_
  simp -implicitDefEqProofs (disch := omega) only [go_sem, e1, e2, e4, e5, e6, e7, e8, m2, m4, m5, mW, mL, hy128, q1, hWi, false_and]
  refine Jab (fun h6 => ?_) (fun h6 => ?_)
  . rw [if_pos h6] at hs2; generalize hQ : Jlr _ k = Q; simp -implicitDefEqProofs (disch := omega) only [go_sem, e1, e2, e4, e5, e6, e7, e8, m2, m4, m5, mW, mL, q1, q2, hWi, false_and]; rw [<- hQ]; clear hQ
    refine Jae (12 - (i + 1)) (by omega) ⟨i + 1, by omega, by omega, ?_⟩
    rw [hWs, hLs, hs1, hs2]; simp -implicitDefEqProofs (disch := omega) only [go_sem, wiI, e1, e2, e4, e5, e6, e7, e8, m2, m4, m5, mW, mL, q1, q2, hWi, L08, L0f, L0z, false_and]; try simp
  . rw [if_neg h6, L0F] at hs2; simp -implicitDefEqProofs (disch := omega) only [go_sem, e1, e2, e4, e5, e6, e7, e8, m2, m4, m5, mW, mL, q1, q2, hWi, false_and]
    refine Jae (12 - (i + 1)) (by omega) ⟨i + 1, by omega, by omega, ?_⟩
    rw [hWs, hLs, hs1, hs2]; simp -implicitDefEqProofs (disch := omega) only [go_sem, wiI, e1, e2, e4, e5, e6, e7, e8, m2, m4, m5, mW, mL, q1, q2, hWi, L08, L0f, L0z, false_and]; try simp
@[go_sem] theorem Ju6 (l : List (Int × Int)) (a b : Int) : l.map HPP ++ [.agg [.v (.int .i64 a), .v (.int .i64 b)]] = (l ++ [(a, b)]).map HPP := by simp
@[go_sem] theorem Ju7 (l : List Lg) (a b c d e f : Int) : l.map LGP ++ [.agg [.v (.int .i64 a), .v (.int .i64 b), .v (.int .i64 c), .v (.int .i64 d), .v (.int .i64 e), .v (.int .i64 f)]] = (l ++ [(⟨a, b, ⟨c, d⟩, ⟨e, f⟩⟩ : Lg)]).map LGP := by simp
@[go_sem] theorem Ju5 (l : List Ck) (c : Ck) : l.map CKP ++ [CKP c] = (l ++ [c]).map CKP := by simp
@[go_sem] theorem JwV (l : List Tf) (c : Tf) : l.map TF ++ [TF c] = (l ++ [c]).map TF := by simp
theorem dnv (x : Value) : AV.dn (.v x) = false := AV.dn.eq_2 x
theorem JBu (l : List Int) : AV.dnL (l.map I) = false := JdB I (fun x => dnv _) l
theorem Joh (c : Cr) : (CRP c).dn = false := by
  simp only [AV.dn, AV.dnL, JBu, JdB QT (fun q => by simp only [AV.dn, AV.dnL, L11]) c.at_, L11]
theorem JcB (c : Ck) : (CKP c).dn = false := by
  simp only [AV.dn, AV.dnL, JdB RDP (fun q => by simp only [AV.dn, AV.dnL, L11]) c.r, L11]
theorem Jxj (c : Tf) : (TF c).dn = false := by
  simp only [AV.dn, AV.dnL, JdB TP (fun q => by simp only [AV.dn, AV.dnL, L11]) c.l, L11]
structure Nm.ok (x : Nm) : Prop where
  hops : ∀ h ∈ x.hops, R64 h.1 /\ R64 h.2
  hopsL : x.hops.length <= 9223372036854775807
  legs : ∀ q ∈ x.legs, T3ok q
  legsL : x.legs.length <= 9223372036854775807
  crs : ∀ c ∈ x.crs, c.ok
  crsL : x.crs.length <= 9223372036854775807
  bases : ∀ n ∈ x.bases, R64 n
  basesL : x.bases.length <= 9223372036854775807
  rates : ∀ q ∈ x.rates, Q4ok q
  ratesL : x.rates.length <= 9223372036854775807
  offs : ∀ n ∈ x.offs, R64 n
  offsL : x.offs.length <= 9223372036854775807
  wit : ∀ n ∈ x.wit, R64 n
  witL : x.wit.length <= 9223372036854775807
theorem JkB {x : Nm} (h : x.ok) (c : Nat) : (crsF x c).ok := by
  unfold crsF
  split
  . exact ⟨⟨by decide, by decide⟩, ⟨by decide, by decide⟩, fun r hr => (by cases hr), L13 _, fun q hq => (by cases hq), L13 _⟩
  . rename_i hn
    exact h.crs _ (Jas _ _ (L1e _ (L17.2 hn)))
theorem Jpe {l : List Int} (h : ∀ n ∈ l, R64 n) (i : Nat) : R64 (numF l i) := by
  unfold numF
  split
  . exact ⟨by decide, by decide⟩
  . rename_i hn
    exact h _ (Jas _ _ (L1e _ (L17.2 hn)))
def ckN (x : Nm) (i : Nat) : List Ck := (List.range i).map fun c => (crsF x c).clk
def tfN (x : Nm) (i : Nat) : List Tf := (List.range i).map fun c => tfQ (numF x.bases c) (x.rates.take (c % 4))
def ofN (x : Nm) (i : Nat) : List Int := (List.range i).map (offF x)
def lgN (x : Nm) (hs : List (Int × Int)) (i : Nat) : List Lg := (List.range i).map (legM x hs)
theorem JqK (x : Nm) (i : Nat) : ckN x (i + 1) = ckN x i ++ [(crsF x i).clk] := by simp [ckN, L1h]
theorem JrV (x : Nm) (i : Nat) : tfN x (i + 1) = tfN x i ++ [tfQ (numF x.bases i) (x.rates.take (i % 4))] := by simp [tfN, L1h]
theorem Jrn (x : Nm) (i : Nat) : ofN x (i + 1) = ofN x i ++ [offF x i] := by simp [ofN, L1h]
theorem Jrc (x : Nm) (hs : List (Int × Int)) (i : Nat) : lgN x hs (i + 1) = lgN x hs i ++ [legM x hs i] := by simp [lgN, L1h]
theorem Jp9 (i : Nat) : upsN (i + 1) = upsN i ++ [updS i] := by simp [upsN, L1h]
theorem Jts (x : Nm) (i : Nat) : (ckN x i).length = i := by simp [ckN]
theorem JuP (x : Nm) (i : Nat) : (tfN x i).length = i := by simp [tfN]
theorem Juo (x : Nm) (i : Nat) : (ofN x i).length = i := by simp [ofN]
theorem Jo2 (x : Nm) (hs : List (Int × Int)) (i : Nat) : (lgN x hs i).length = i := by simp [lgN]
abbrev mdT (hA : AV) (G : List Lg) (C : List Ck) (T : List Tf) (O : List Int) (U : List ByteArray) : AV :=
  .agg [hA, .own 29360178 6 0 G.length, .own 29360179 2 0 C.length, .own 29360180 2 0 T.length, .own 29360181 1 0 O.length, Str (keyS 0), I 0, I 0, .v (.string ByteArray.empty), .v (.string ByteArray.empty), .v (.slice none 0 0), Str JaN, .own 29360182 1 0 U.length]
abbrev zT : AV := .agg [.v (.slice none 0 0), .v (.slice none 0 0), .v (.slice none 0 0), .v (.slice none 0 0), .v (.slice none 0 0), .v (.string ByteArray.empty), I 0, I 0, .v (.string ByteArray.empty), .v (.string ByteArray.empty), .v (.slice none 0 0), .v (.string ByteArray.empty), .v (.slice none 0 0)]
def mdI (x : Nm) (hA : AV) (G : List Lg) (C : List Ck) (T : List Tf) (O : List Int) (U : List ByteArray) (E : Env) (σ : Jac) : Prop :=
  E 1 = .ptr 29360144 7 0 0 /\ E 2 = .ptr 29360160 13 0 0 /\ E 3 = .ptr 29360176 13 0 0 /\ σ 29360144 = some ⟨28, 7, [NMP x]⟩ /\ σ 29360160 = some ⟨52, 13, [zT]⟩ /\
  σ 29360176 = some ⟨52, 13, [mdT hA G C T O U]⟩ /\ σ 29360178 = some ⟨33, 6, G.map LGP⟩ /\ σ 29360179 = some ⟨58, 2, C.map CKP⟩ /\ σ 29360180 = some ⟨96, 2, T.map TF⟩ /\
  σ 29360181 = some ⟨3, 1, O.map I⟩ /\ σ 29360182 = some ⟨9, 1, U.map Str⟩
set_option maxHeartbeats 16000000 in
theorem Jes (x : Nm) (hx : x.ok) : Ev prog 13 [NMP x] (TPP (Jan x)) := by
  have hfin : TPP (Jan x) = .agg [HPS (Jat x.hops), LGS (lgN x (Jat x.hops) ((Jat x.hops).length - 1)), CKS (ckN x 8), TFS (tfN x 8), SL (ofN x 8), Str (keyS 0), I (Jan x).part.h.c, I (Jan x).part.h.n, Str (Jan x).part.h.r, Str (Jan x).part.h.s, ITS (Jan x).part.l, Str JaN, SLs (upsN ((Jcz x.hops).2 + 2).toNat)] := rfl
  have hHl := JdE x.hops; have hHi := Jdb x.hops; have hLi := JiC x.hops; have hlen1 := Jo2 x (Jat x.hops) ((Jat x.hops).length - 1)
  have cw := Jnw (Jat x.hops) (lgN x (Jat x.hops) ((Jat x.hops).length - 1)) (ckN x 8) (tfN x 8) (ofN x 8) JaN ((Jcz x.hops).2 + 2).toNat x.wit hx.wit hx.witL (by omega) (by omega) (by omega) (fun i hi => by
    rw [hlen1] at hi
    have : gd (lgN x (Jat x.hops) ((Jat x.hops).length - 1)) i = legM x (Jat x.hops) i := JlY x (Jat x.hops) hi
    rw [this]; exact JoZ x (by omega))
  have hwp : witP JaN (upsN ((Jcz x.hops).2 + 2).toNat) (lgN x (Jat x.hops) ((Jat x.hops).length - 1)) x.wit = (Jan x).part := rfl
  rw [hwp] at cw; rw [hfin]; clear hwp hfin; generalize (Jan x).part = PT at *
  obtain ⟨⟨pc, pn, pr, ps⟩, pl⟩ := PT
  simp only at *
  have k1 := JlS; rw [<- JoV] at k1
  refine EW [2, 17, 18, 37] func13 ?_
  simp -implicitDefEqProofs (disch := omega) only [go_sem, ntmps13]
  refine Jaa k1 ?_
  simp -implicitDefEqProofs (disch := omega) only [go_sem]
  refine Jbp 29360176 29360177 0 0 88 2 (k := ⟨52, 13, [.agg [.v (.slice none 0 0), .v (.slice none 0 0), .v (.slice none 0 0), .v (.slice none 0 0), .v (.slice none 0 0), Str (keyS 0), I 0, I 0, .v (.string ByteArray.empty), .v (.string ByteArray.empty), .v (.slice none 0 0), Str JaN, .v (.slice none 0 0)]]⟩) (el := .agg [.v (.slice none 0 0), .v (.slice none 0 0), .v (.slice none 0 0), .v (.slice none 0 0), .v (.slice none 0 0), Str (keyS 0), I 0, I 0, .v (.string ByteArray.empty), .v (.string ByteArray.empty), .v (.slice none 0 0), Str JaN, .v (.slice none 0 0)]) (by simp -implicitDefEqProofs (disch := omega) only [go_sem, false_and]; try rfl) (by decide) rfl rfl (by simp) (by simp -implicitDefEqProofs (disch := omega) only [go_sem]) rfl ?_
  refine Jbp 29360176 29360178 0 1 33 6 (k := ⟨52, 13, [.agg [.own 29360177 2 0 0, .v (.slice none 0 0), .v (.slice none 0 0), .v (.slice none 0 0), .v (.slice none 0 0), Str (keyS 0), I 0, I 0, .v (.string ByteArray.empty), .v (.string ByteArray.empty), .v (.slice none 0 0), Str JaN, .v (.slice none 0 0)]]⟩) (el := .agg [.own 29360177 2 0 0, .v (.slice none 0 0), .v (.slice none 0 0), .v (.slice none 0 0), .v (.slice none 0 0), Str (keyS 0), I 0, I 0, .v (.string ByteArray.empty), .v (.string ByteArray.empty), .v (.slice none 0 0), Str JaN, .v (.slice none 0 0)]) (by simp -implicitDefEqProofs (disch := omega) only [go_sem, false_and]; try rfl) (by decide) rfl rfl (by simp) (by simp -implicitDefEqProofs (disch := omega) only [go_sem]) rfl ?_
  refine Jbp 29360176 29360179 0 2 58 2 (k := ⟨52, 13, [.agg [.own 29360177 2 0 0, .own 29360178 6 0 0, .v (.slice none 0 0), .v (.slice none 0 0), .v (.slice none 0 0), Str (keyS 0), I 0, I 0, .v (.string ByteArray.empty), .v (.string ByteArray.empty), .v (.slice none 0 0), Str JaN, .v (.slice none 0 0)]]⟩) (el := .agg [.own 29360177 2 0 0, .own 29360178 6 0 0, .v (.slice none 0 0), .v (.slice none 0 0), .v (.slice none 0 0), Str (keyS 0), I 0, I 0, .v (.string ByteArray.empty), .v (.string ByteArray.empty), .v (.slice none 0 0), Str JaN, .v (.slice none 0 0)]) (by simp -implicitDefEqProofs (disch := omega) only [go_sem, false_and]; try rfl) (by decide) rfl rfl (by simp) (by simp -implicitDefEqProofs (disch := omega) only [go_sem]) rfl ?_
  refine Jbp 29360176 29360180 0 3 96 2 (k := ⟨52, 13, [.agg [.own 29360177 2 0 0, .own 29360178 6 0 0, .own 29360179 2 0 0, .v (.slice none 0 0), .v (.slice none 0 0), Str (keyS 0), I 0, I 0, .v (.string ByteArray.empty), .v (.string ByteArray.empty), .v (.slice none 0 0), Str JaN, .v (.slice none 0 0)]]⟩) (el := .agg [.own 29360177 2 0 0, .own 29360178 6 0 0, .own 29360179 2 0 0, .v (.slice none 0 0), .v (.slice none 0 0), Str (keyS 0), I 0, I 0, .v (.string ByteArray.empty), .v (.string ByteArray.empty), .v (.slice none 0 0), Str JaN, .v (.slice none 0 0)]) (by simp -implicitDefEqProofs (disch := omega) only [go_sem, false_and]; try rfl) (by decide) rfl rfl (by simp) (by simp -implicitDefEqProofs (disch := omega) only [go_sem]) rfl ?_
  refine Jbp 29360176 29360181 0 4 3 1 (k := ⟨52, 13, [.agg [.own 29360177 2 0 0, .own 29360178 6 0 0, .own 29360179 2 0 0, .own 29360180 2 0 0, .v (.slice none 0 0), Str (keyS 0), I 0, I 0, .v (.string ByteArray.empty), .v (.string ByteArray.empty), .v (.slice none 0 0), Str JaN, .v (.slice none 0 0)]]⟩) (el := .agg [.own 29360177 2 0 0, .own 29360178 6 0 0, .own 29360179 2 0 0, .own 29360180 2 0 0, .v (.slice none 0 0), Str (keyS 0), I 0, I 0, .v (.string ByteArray.empty), .v (.string ByteArray.empty), .v (.slice none 0 0), Str JaN, .v (.slice none 0 0)]) (by simp -implicitDefEqProofs (disch := omega) only [go_sem, false_and]; try rfl) (by decide) rfl rfl (by simp) (by simp -implicitDefEqProofs (disch := omega) only [go_sem]) rfl ?_
  refine Jbp 29360176 29360182 0 12 9 1 (k := ⟨52, 13, [.agg [.own 29360177 2 0 0, .own 29360178 6 0 0, .own 29360179 2 0 0, .own 29360180 2 0 0, .own 29360181 1 0 0, Str (keyS 0), I 0, I 0, .v (.string ByteArray.empty), .v (.string ByteArray.empty), .v (.slice none 0 0), Str JaN, .v (.slice none 0 0)]]⟩) (el := .agg [.own 29360177 2 0 0, .own 29360178 6 0 0, .own 29360179 2 0 0, .own 29360180 2 0 0, .own 29360181 1 0 0, Str (keyS 0), I 0, I 0, .v (.string ByteArray.empty), .v (.string ByteArray.empty), .v (.slice none 0 0), Str JaN, .v (.slice none 0 0)]) (by simp -implicitDefEqProofs (disch := omega) only [go_sem, false_and]; try rfl) (by decide) rfl rfl (by simp) (by simp -implicitDefEqProofs (disch := omega) only [go_sem]) rfl ?_
  refine Je6 Plain.mono ?_
  simp -implicitDefEqProofs (disch := omega) only [go_sem]
  -- clocks, tariffs, offsets
  refine Jag (fun k E σ => ∃ i : Nat, i + k = 8 /\ E 4 = I i /\ mdI x (.own 29360177 2 0 0) [] (ckN x i) (tfN x i) (ofN x i) [] E σ /\ σ 29360177 = some ⟨88, 2, []⟩) 8 ⟨0, by omega, ?_⟩ ?_
  . simp -implicitDefEqProofs (disch := omega) only [go_sem, mdI, ckN, tfN, ofN, false_and, and_self]
    try ((repeat' apply And.intro) <;> rfl)
  rintro k E σ ⟨i, hk, e4, ⟨e1, e2, e3, m1, m2, m3, mg, mc, mt, mo, mu⟩, mh⟩
  simp -implicitDefEqProofs (disch := omega) only [go_sem, e4, e1, e2, e3, m1, m2, m3, mg, mc, mt, mo, mu, mh]
  refine Jab (fun hc => ?_) (fun hc => ?_)
  . have hck := Jts x i; have htf := JuP x i; have hof := Juo x i
    have b1 := Jgz x i hx.crsL (by omega)
    have b2 := Jbo (crsF x i) (JkB hx i)
    have b3 := JjQ x.bases i hx.basesL (by omega)
    have r3 := Jpe hx.bases i
    have ht4 : (i : Int).tmod 4 = ((i % 4 : Nat) : Int) := by rw [L12 (by omega)]; omega
    have hmin : (min (x.rates.length : Int) ((i % 4 : Nat) : Int)).toNat = min x.rates.length (i % 4) := by omega
    have htk : x.rates.take (min x.rates.length (i % 4)) = x.rates.take (i % 4) := by
      by_cases h : i % 4 <= x.rates.length
      . rw [Nat.min_eq_right h]
      . rw [L0N (by omega), L0d, L09 (by omega)]
    have b4 := Jkh (numF x.bases i) (x.rates.take (i % 4)) r3 (fun q hq => hx.rates q (L0D hq)) (by rw [L02]; have := hx.ratesL; omega)
    have b5 := JjQ x.offs i hx.offsL (by omega)
    have r5 := Jpe hx.offs i
    have b6 := JaE (numF x.offs i) 100801 r5 (by omega)
    have p6 := Jah (c := numF x.offs i) (n := 100801) (by omega)
    have s1 := JqK x i; have s2 := JrV x i; have s3 := Jrn x i
    have hoff : offF x i = Jad (numF x.offs i) 100801 - 50400 := rfl
    rw [hoff] at s3; generalize (crsF x i).clk = K at *; generalize tfQ (numF x.bases i) (x.rates.take (i % 4)) = TQ at *; generalize Jad (numF x.offs i) 100801 = po at *; generalize hC' : ckN x (i + 1) = C' at *; generalize hT' : tfN x (i + 1) = T' at *; generalize hO' : ofN x (i + 1) = O' at *; generalize ckN x i = C at *; generalize tfN x i = T at *; generalize ofN x i = O at *
    have q1 : C.take i = C := L09 (by omega)
    have q2 : T.take i = T := L09 (by omega)
    have q3 : O.take i = O := L09 (by omega)
    obtain ⟨kd, kr⟩ := K; obtain ⟨tl, tb⟩ := TQ; simp -implicitDefEqProofs (disch := omega) only [go_sem, e4, e1, e2, e3, m1, m2, m3, mg, mc, mt, mo, mu, mh, false_and, and_self]
    refine Jaa b1 ?_ (h4 := by first | exact .inl rfl | exact .inr (Joh _))
    simp -implicitDefEqProofs (disch := omega) only [go_sem, e4, e1, e2, e3, m1, m2, m3, mg, mc, mt, mo, mu, mh, false_and, and_self]
    refine Jaa b2 ?_ (h4 := by first | exact .inl rfl | exact .inr (JcB _))
    simp -implicitDefEqProofs (disch := omega) only [go_sem, e4, e1, e2, e3, m1, m2, m3, mg, mc, mt, mo, mu, mh, hck, htf, hof, q1, q2, q3, false_and, and_self]
    refine Jaa b3 ?_
    simp -implicitDefEqProofs (disch := omega) only [go_sem, e4, e1, e2, e3, m1, m2, m3, mg, mc, mt, mo, mu, mh, hck, htf, hof, q1, q2, q3, ht4, hmin, L0M, htk, false_and, and_self]
    refine Jaa b4 ?_ (h4 := by first | exact .inl rfl | exact .inr (Jxj _))
    simp -implicitDefEqProofs (disch := omega) only [go_sem, e4, e1, e2, e3, m1, m2, m3, mg, mc, mt, mo, mu, mh, hck, htf, hof, q1, q2, q3, ht4, hmin, L0M, htk, false_and, and_self]
    refine Jaa b5 ?_
    simp -implicitDefEqProofs (disch := omega) only [go_sem, e4, e1, e2, e3, m1, m2, m3, mg, mc, mt, mo, mu, mh, hck, htf, hof, q1, q2, q3, ht4, hmin, L0M, htk, false_and, and_self]
    refine Jaa b6 ?_
    simp -implicitDefEqProofs (disch := omega) only [go_sem, e4, e1, e2, e3, m1, m2, m3, mg, mc, mt, mo, mu, mh, hck, htf, hof, q1, q2, q3, ht4, hmin, L0M, htk, false_and, and_self]
    refine Jae (8 - (i + 1)) (by omega) ⟨i + 1, by omega, ?_⟩
    rw [hC', hT', hO', s1, s2, s3]; simp -implicitDefEqProofs (disch := omega) only [go_sem, mdI, e4, e1, e2, e3, m1, m2, m3, mg, mc, mt, mo, mu, mh, hck, htf, hof, q1, q2, q3, L08, L0f, L0z, false_and, and_self]
    try simp [hck, htf, hof]
  obtain rfl : i = 8 := by omega
  generalize hC8 : ckN x 8 = C8 at *; generalize hT8 : tfN x 8 = T8 at *; generalize hO8 : ofN x 8 = O8 at *; clear hC8 hT8 hO8 hc; simp -implicitDefEqProofs (disch := omega) only [go_sem, e4, e1, e2, e3, m1, m2, m3, mg, mc, mt, mo, mu, mh, false_and, and_self]
  -- hops
  have hn0 : hopN x.hops 0 = [] := rfl
  refine JjG 2 (fun E σ => E 5 = .ptr 29360208 2 0 0 /\ mdI x (.own 29360177 2 0 (min x.hops.length 6)) [] C8 T8 O8 [] E σ /\ σ 29360177 = some ⟨88, 2, (hopN x.hops (min x.hops.length 6)).map HPP⟩ /\ σ 29360208 = some ⟨88, 2, [HPP (gd (hopN x.hops (min x.hops.length 6)) (min x.hops.length 6 - 1))]⟩) ?_ ?_
  . refine Jag (fun k E σ => ∃ i : Nat, i + k = 6 /\ i <= x.hops.length /\ E 6 = I i /\ E 5 = .ptr 29360208 2 0 0 /\ mdI x (.own 29360177 2 0 i) [] C8 T8 O8 [] E σ /\ σ 29360177 = some ⟨88, 2, (hopN x.hops i).map HPP⟩ /\ σ 29360208 = some ⟨88, 2, [HPP (gd (hopN x.hops i) (i - 1))]⟩) 6 ⟨0, by omega, by omega, ?_⟩ ?_
    . simp -implicitDefEqProofs (disch := omega) only [go_sem, mdI, hn0, e1, e2, e3, m1, m2, m3, mg, mc, mt, mo, mu, mh, false_and, and_self]
      try ((repeat' apply And.intro) <;> rfl)
    clear e1 e2 e3 e4 m1 m2 m3 mg mc mt mo mu mh E σ
    rintro k E σ ⟨i, hk, hil, e6, e5, ⟨e1, e2, e3, m1, m2, m3, mg, mc, mt, mo, mu⟩, mh, m5⟩
    simp -implicitDefEqProofs (disch := omega) only [go_sem, e5, e6, e1, e2, e3, m1, m2, m3, mg, mc, mt, mo, mu, mh, m5]
    refine Jab (fun hc => ?_) (fun hc => ?_)
    rotate_left
    . obtain rfl : i = min x.hops.length 6 := by omega
      simp -implicitDefEqProofs (disch := omega) only [go_sem, mdI, e5, e6, e1, e2, e3, m1, m2, m3, mg, mc, mt, mo, mu, mh, m5, false_and, and_self]; try rfl
    simp -implicitDefEqProofs (disch := omega) only [go_sem, e5, e6, e1, e2, e3, m1, m2, m3, mg, mc, mt, mo, mu, mh, m5]
    refine Jab (fun hc2 => ?_) (fun hc2 => ?_)
    rotate_left
    . obtain rfl : i = min x.hops.length 6 := by omega
      simp -implicitDefEqProofs (disch := omega) only [go_sem, mdI, e5, e6, e1, e2, e3, m1, m2, m3, mg, mc, mt, mo, mu, mh, m5, false_and, and_self]; try rfl
    have hil2 : i < x.hops.length := by omega
    have hnl := JaV x.hops i
    obtain ⟨r1, r2⟩ := hx.hops _ (Jas x.hops i hil2)
    have c1 := JaE (gd x.hops i).1 8 r1 (by omega)
    have c2 := JaE (gd x.hops i).2 4 r2 (by omega)
    have c3 := JaE (gd x.hops i).1 7 r1 (by omega)
    have p1 := Jah (c := (gd x.hops i).1) (n := 8) (by omega)
    have p2 := Jah (c := (gd x.hops i).2) (n := 4) (by omega)
    have p3 := Jah (c := (gd x.hops i).1) (n := 7) (by omega)
    have hla : (0 <= (gd (hopN x.hops i) (i - 1)).1 /\ (gd (hopN x.hops i) (i - 1)).1 <= 7) /\ 0 <= (gd (hopN x.hops i) (i - 1)).2 /\ (gd (hopN x.hops i) (i - 1)).2 <= 20 := by
      by_cases h0 : i = 0
      . subst h0; rw [hn0, JsB]; decide
      . exact JgJ x.hops i _ (Jas _ _ (by rw [hnl]; omega))
    have hs : hopN x.hops (i + 1) = hopN x.hops i ++ [hopF (gd x.hops i) (gd (hopN x.hops i) (i - 1)) i] := rfl
    have hF : hopF (gd x.hops i) (gd (hopN x.hops i) (i - 1)) i = (if i = 0 then Jad (gd x.hops i).1 8 else ((gd (hopN x.hops i) (i - 1)).1 + 1 + Jad (gd x.hops i).1 7).tmod 8, min ((gd (hopN x.hops i) (i - 1)).2 + Jad (gd x.hops i).2 4) 20) := rfl
    have hg : gd (hopN x.hops (i + 1)) (i + 1 - 1) = hopF (gd x.hops i) (gd (hopN x.hops i) (i - 1)) i := by
      rw [hs, L0Z, Ja0 _ _ _ (by omega), hnl, L1p, JaD]
    generalize hopF (gd x.hops i) (gd (hopN x.hops i) (i - 1)) i = h at *; generalize hH' : hopN x.hops (i + 1) = H' at *; generalize gd (hopN x.hops i) (i - 1) = la at *; generalize hopN x.hops i = H at *; obtain ⟨la1, la2⟩ := la; obtain ⟨h1, h2⟩ := h; simp only [Prod.mk.injEq] at hF hla; obtain ⟨hF1, hF2⟩ := hF; generalize Jad (gd x.hops i).1 8 = w1 at *; generalize Jad (gd x.hops i).2 4 = w2 at *; generalize Jad (gd x.hops i).1 7 = w3 at *
    have qt : H.take i = H := L09 (by omega)
    simp -implicitDefEqProofs (disch := omega) only [go_sem, e5, e6, e1, e2, e3, m1, m2, m3, mg, mc, mt, mo, mu, mh, m5, false_and, and_self]
    refine Jaa c1 ?_
    simp -implicitDefEqProofs (disch := omega) only [go_sem, e5, e6, e1, e2, e3, m1, m2, m3, mg, mc, mt, mo, mu, mh, m5, false_and, and_self]
    refine Jaa c2 ?_
    simp -implicitDefEqProofs (disch := omega) only [go_sem, e5, e6, e1, e2, e3, m1, m2, m3, mg, mc, mt, mo, mu, mh, m5, false_and, and_self]
    refine JbA (fun E σ => E 6 = I i /\ E 5 = .ptr 29360208 2 0 0 /\ E 7 = .ptr 29360240 2 0 0 /\ mdI x (.own 29360177 2 0 i) [] C8 T8 O8 [] E σ /\ σ 29360177 = some ⟨88, 2, H.map HPP⟩ /\ σ 29360208 = some ⟨88, 2, [HPP (la1, la2)]⟩ /\ σ 29360240 = some ⟨88, 2, [HPP (h1, h2)]⟩) (fun h0 => ?_) (fun h0 => ?_) ?_
    . rw [if_neg (by omega)] at hF1
      simp -implicitDefEqProofs (disch := omega) only [go_sem, e5, e6, e1, e2, e3, m1, m2, m3, mg, mc, mt, mo, mu, mh, m5, false_and, and_self]
      refine Jaa c3 ?_
      simp -implicitDefEqProofs (disch := omega) only [go_sem, mdI, e5, e6, e1, e2, e3, m1, m2, m3, mg, mc, mt, mo, mu, mh, m5, hF1, hF2, false_and, and_self]; try rfl
    . rw [if_pos (by omega)] at hF1
      simp -implicitDefEqProofs (disch := omega) only [go_sem, mdI, e5, e6, e1, e2, e3, m1, m2, m3, mg, mc, mt, mo, mu, mh, m5, hF1, hF2, false_and, and_self]; try rfl
    clear e5 e6 e1 e2 e3 m1 m2 m3 mg mc mt mo mu mh m5 E σ
    rintro E σ ⟨e6, e5, e7, ⟨e1, e2, e3, m1, m2, m3, mg, mc, mt, mo, mu⟩, mh, m5, m7⟩
    simp -implicitDefEqProofs (disch := omega) only [go_sem, e5, e6, e7, e1, e2, e3, m1, m2, m3, mg, mc, mt, mo, mu, mh, m5, m7, hnl, qt, false_and, and_self]
    refine Jae (6 - (i + 1)) (by omega) ⟨i + 1, by omega, by omega, ?_⟩
    rw [hH', hg, hs]; simp -implicitDefEqProofs (disch := omega) only [go_sem, mdI, e5, e6, e7, e1, e2, e3, m1, m2, m3, mg, mc, mt, mo, mu, mh, m5, m7, hnl, qt, L08, L0f, L0z, false_and, and_self]; try simp
  clear e1 e2 e3 e4 m1 m2 m3 mg mc mt mo mu mh E σ
  have hHm : (hopN x.hops (min x.hops.length 6)).length = min x.hops.length 6 := JaV _ _
  have hHF : Jat x.hops = if x.hops = [] then [(0, 0)] else hopN x.hops (min x.hops.length 6) := rfl
  have hLH : gd (hopN x.hops (min x.hops.length 6)) (min x.hops.length 6 - 1) = Jcz x.hops := by
    unfold Jcz
    by_cases h0 : x.hops = []
    . rw [hHF, if_pos h0, h0]; rfl
    . rw [hHF, if_neg h0, hHm]
  rw [hLH]; clear hLH
  rintro E σ ⟨e5, ⟨e1, e2, e3, m1, m2, m3, mg, mc, mt, mo, mu⟩, mh, m5⟩
  simp -implicitDefEqProofs (disch := omega) only [go_sem, e5, e1, e2, e3, m1, m2, m3, mg, mc, mt, mo, mu, mh, m5]
  have qHm : (hopN x.hops (min x.hops.length 6)).take (min x.hops.length 6) = hopN x.hops (min x.hops.length 6) := L09 (by omega)
  refine JaK Plain.mono [29360177] ?_
  simp -implicitDefEqProofs (disch := omega) only [go_sem, e5, e1, e2, e3, m1, m2, m3, mg, mc, mt, mo, mu, mh, m5, qHm, hHm, L05, false_and, and_self]
  refine JbA (fun E σ => E 5 = .ptr 29360208 2 0 0 /\ mdI x (HPS (Jat x.hops)) [] C8 T8 O8 [] E σ /\ σ 29360208 = some ⟨88, 2, [HPP (Jcz x.hops)]⟩) (fun h0 => ?_) (fun h0 => ?_) ?_
  . have hnil : x.hops = [] := L0R (by omega)
    rw [if_pos hnil] at hHF; rw [hHF]; simp -implicitDefEqProofs (disch := omega) only [go_sem, e5, e1, e2, e3, m1, m2, m3, mg, mc, mt, mo, mu, mh, m5, qHm, hHm, L05, false_and, and_self]
    refine JkJ [29362000] ?_
    refine Je6 Plain.mono ?_
    simp -implicitDefEqProofs (disch := omega) only [go_sem, mdI, e5, e1, e2, e3, m1, m2, m3, mg, mc, mt, mo, mu, mh, m5, qHm, hHm, L05, false_and, and_self]; try rfl
  . have hnil : x.hops ≠ [] := fun h => by rw [h] at h0; exact h0 rfl
    rw [if_neg hnil] at hHF; rw [hHF]; simp -implicitDefEqProofs (disch := omega) only [go_sem, mdI, e5, e1, e2, e3, m1, m2, m3, mg, mc, mt, mo, mu, mh, m5, qHm, hHm, L05, false_and, and_self]; try rfl
  clear hHF hHm qHm e5 e1 e2 e3 m1 m2 m3 mg mc mt mo mu mh m5 E σ; generalize Jat x.hops = HS at *
  rintro E σ ⟨e5, ⟨e1, e2, e3, m1, m2, m3, mg, mc, mt, mo, mu⟩, m5⟩
  simp -implicitDefEqProofs (disch := omega) only [go_sem, e5, e1, e2, e3, m1, m2, m3, mg, mc, mt, mo, mu, m5]
  -- updates
  have hu0 : upsN 0 = [] := rfl
  obtain ⟨n, hn⟩ : ∃ n : Nat, ((Jcz x.hops).2 + 2).toNat = n := ⟨_, rfl⟩
  rw [hn] at cw ⊢; generalize Jcz x.hops = la at *; obtain ⟨la1, la2⟩ := la
  simp only at *
  refine Jag (fun k E σ => ∃ i : Nat, i + k = n /\ E 8 = I i /\ E 5 = .ptr 29360208 2 0 0 /\ mdI x (HPS HS) [] C8 T8 O8 (upsN i) E σ /\ σ 29360208 = some ⟨88, 2, [HPP (la1, la2)]⟩) n ⟨0, by omega, ?_⟩ ?_
  . simp -implicitDefEqProofs (disch := omega) only [go_sem, mdI, hu0, e5, e1, e2, e3, m1, m2, m3, mg, mc, mt, mo, mu, m5, false_and, and_self]
    try ((repeat' apply And.intro) <;> rfl)
  clear e5 e1 e2 e3 m1 m2 m3 mg mc mt mo mu m5 E σ
  rintro k E σ ⟨i, hk, e8, e5, ⟨e1, e2, e3, m1, m2, m3, mg, mc, mt, mo, mu⟩, m5⟩
  simp -implicitDefEqProofs (disch := omega) only [go_sem, e5, e8, e1, e2, e3, m1, m2, m3, mg, mc, mt, mo, mu, m5]
  refine Jab (fun hc => ?_) (fun hc => ?_)
  . have b1 := Jp7 i (by omega)
    have s1 := Jp9 i; have ul := Jcx i; generalize updS i = US at *; generalize hU' : upsN (i + 1) = U' at *; generalize upsN i = U at *
    have qt : U.take i = U := L09 (by omega)
    simp -implicitDefEqProofs (disch := omega) only [go_sem, e5, e8, e1, e2, e3, m1, m2, m3, mg, mc, mt, mo, mu, m5, false_and, and_self]
    refine Jaa b1 ?_
    simp -implicitDefEqProofs (disch := omega) only [go_sem, e5, e8, e1, e2, e3, m1, m2, m3, mg, mc, mt, mo, mu, m5, ul, qt, false_and, and_self]
    refine Jae (n - (i + 1)) (by omega) ⟨i + 1, by omega, ?_⟩
    rw [hU', s1]; simp -implicitDefEqProofs (disch := omega) only [go_sem, mdI, e5, e8, e1, e2, e3, m1, m2, m3, mg, mc, mt, mo, mu, m5, ul, qt, L08, L0f, L0z, false_and, and_self]
    try simp [ul]
  obtain rfl : i = n := by omega
  have ul := Jcx i; generalize upsN i = U at *
  have qtu : U.take i = U := L09 (by omega)
  simp -implicitDefEqProofs (disch := omega) only [go_sem, e5, e8, e1, e2, e3, m1, m2, m3, mg, mc, mt, mo, mu, m5]
  -- legs
  have hg0 : lgN x HS 0 = [] := rfl
  refine Jag (fun k E σ => ∃ i : Nat, i + k = HS.length - 1 /\ E 9 = I i /\ mdI x (HPS HS) (lgN x HS i) C8 T8 O8 U E σ) (HS.length - 1) ⟨0, by omega, ?_⟩ ?_
  . simp -implicitDefEqProofs (disch := omega) only [go_sem, mdI, hg0, e1, e2, e3, m1, m2, m3, mg, mc, mt, mo, mu, false_and, and_self]
    try ((repeat' apply And.intro) <;> rfl)
  clear e5 e8 e1 e2 e3 m1 m2 m3 mg mc mt mo mu m5 E σ hk hc k
  rintro k E σ ⟨v, hk, e9, e1, e2, e3, m1, m2, m3, mg, mc, mt, mo, mu⟩
  have hvv : ((v : Int) + 1).toNat = v + 1 := by omega
  simp -implicitDefEqProofs (disch := omega) only [go_sem, e9, e1, e2, e3, m1, m2, m3, mg, mc, mt, mo, mu]
  refine Jab (fun hc => ?_) (fun hc => ?_)
  rotate_left
  . obtain rfl : v = HS.length - 1 := by omega
    generalize lgN x HS (HS.length - 1) = G at *
    have qg : G.take (HS.length - 1) = G := L09 (by omega)
    have qc : C8.take C8.length = C8 := L0d
    have qt : T8.take T8.length = T8 := L0d
    have qo : O8.take O8.length = O8 := L0d
    simp -implicitDefEqProofs (disch := omega) only [go_sem, e9, e1, e2, e3, m1, m2, m3, mg, mc, mt, mo, mu]
    refine JaK Plain.mono [29360178, 29360179, 29360180, 29360181, 29360182] ?_
    simp -implicitDefEqProofs (disch := omega) only [go_sem, e9, e1, e2, e3, m1, m2, m3, mg, mc, mt, mo, mu, hlen1, ul, qg, qc, qt, qo, qtu, L05, false_and, and_self]
    refine Jaa cw ?_
    simp -implicitDefEqProofs (disch := omega) only [go_sem, e9, e1, e2, e3, m1, m2, m3, mg, mc, mt, mo, mu, hlen1, ul, qg, qc, qt, qo, qtu, L05, false_and, and_self, results13]; try rfl
  have hv1 : v < HS.length := by omega
  have hv2 : v + 1 < HS.length := by omega
  have hgl := Jo2 x HS v; have s1 := Jrc x HS v
  have hlm : legM x HS v = ⟨(gd HS v).1, (gd HS (v + 1)).1, (crsF x (gd HS v).1.toNat).cnt (Jad (legY x v).1 2000) (Jad (legY x v).1 2000 + Jad (legY x v).2.1 900), if Jad (legY x v).2.2 4 = 3 then ⟨((crsF x (gd HS (v + 1)).1.toNat).cnt (Jad (legY x v).1 2000) (Jad (legY x v).1 2000 + Jad (legY x v).2.1 900)).b, ((crsF x (gd HS (v + 1)).1.toNat).cnt (Jad (legY x v).1 2000) (Jad (legY x v).1 2000 + Jad (legY x v).2.1 900)).e + Jad (legY x v).2.2 400⟩ else (crsF x (gd HS (v + 1)).1.toNat).cnt (Jad (legY x v).1 2000) (Jad (legY x v).1 2000 + Jad (legY x v).2.1 900)⟩ := rfl
  have hY : legY x v = if x.legs = [] then (100 * (v : Int), 60, 0) else gd x.legs (v % x.legs.length) := rfl
  have hi1 := hHi _ (Jas HS v hv1); have hi2 := hHi _ (Jas HS (v + 1) hv2)
  have hYr : T3ok (legY x v) := by
    rw [hY]
    split
    . refine ⟨⟨?_, ?_⟩, ⟨?_, ?_⟩, ⟨?_, ?_⟩⟩ <;> simp only <;> omega
    . rename_i hne
      exact hx.legs _ (Jas _ _ (L1e _ (L17.2 hne)))
  obtain ⟨y1, y2, y3⟩ := hYr
  have a1 := Jah (c := (legY x v).1) (n := 2000) (by omega)
  have a2 := Jah (c := (legY x v).2.1) (n := 900) (by omega)
  have a3 := Jah (c := (legY x v).2.2) (n := 400) (by omega)
  have d1 := JaE (legY x v).1 2000 y1 (by omega)
  have d2 := JaE (legY x v).2.1 900 y2 (by omega)
  have d3 := JaE (legY x v).2.2 400 y3 (by omega)
  have d4 := JaE (legY x v).2.2 4 y3 (by omega)
  have n1 : (((gd HS v).1.toNat : Nat) : Int) = (gd HS v).1 := by omega
  have n2 : (((gd HS (v + 1)).1.toNat : Nat) : Int) = (gd HS (v + 1)).1 := by omega
  have f1 := Jgz x (gd HS v).1.toNat hx.crsL (by omega)
  have f2 := Jgz x (gd HS (v + 1)).1.toNat hx.crsL (by omega)
  rw [n1] at f1; rw [n2] at f2
  have g1 := JbD (crsF x (gd HS v).1.toNat) (Jad (legY x v).1 2000) (Jad (legY x v).1 2000 + Jad (legY x v).2.1 900) (JkB hx _) (by omega) (by omega)
  have g2 := JbD (crsF x (gd HS (v + 1)).1.toNat) (Jad (legY x v).1 2000) (Jad (legY x v).1 2000 + Jad (legY x v).2.1 900) (JkB hx _) (by omega) (by omega)
  have g3 : ((crsF x (gd HS (v + 1)).1.toNat).cnt (Jad (legY x v).1 2000) (Jad (legY x v).1 2000 + Jad (legY x v).2.1 900)).e <= 9000 := by
    have hd := Jah (c := (crsF x (gd HS (v + 1)).1.toNat).d) (n := 101) (by omega)
    have := (JcG (d := Jad (crsF x (gd HS (v + 1)).1.toNat).d 101) (by omega) (crsF x (gd HS (v + 1)).1.toNat).s (crsF x (gd HS (v + 1)).1.toNat).r (t := Jad (legY x v).1 2000 + Jad (legY x v).2.1 900) (by omega)).2
    simp only [Cr.cnt, Cr.show]; omega
  have g4 := (Jb0.1 (JeM (crsF x (gd HS (v + 1)).1.toNat) (f := Jad (legY x v).1 2000) (t := Jad (legY x v).1 2000 + Jad (legY x v).2.1 900) (by omega) (by omega) (by omega)))
  generalize hK1 : (crsF x (gd HS v).1.toNat).cnt (Jad (legY x v).1 2000) (Jad (legY x v).1 2000 + Jad (legY x v).2.1 900) = K1 at *; generalize hK2 : (crsF x (gd HS (v + 1)).1.toNat).cnt (Jad (legY x v).1 2000) (Jad (legY x v).1 2000 + Jad (legY x v).2.1 900) = K2 at *; clear hK1 hK2; generalize crsF x (gd HS v).1.toNat = R1 at *; generalize crsF x (gd HS (v + 1)).1.toNat = R2 at *; generalize Jad (legY x v).1 2000 = w1 at *; generalize Jad (legY x v).2.1 900 = w2 at *; generalize Jad (legY x v).2.2 400 = w3 at *; generalize Jad (legY x v).2.2 4 = w4 at *; generalize hLM : legM x HS v = LM at *; generalize hG' : lgN x HS (v + 1) = G' at *; generalize lgN x HS v = G at *
  have qg : G.take v = G := L09 (by omega)
  have y1 := y1; simp -implicitDefEqProofs (disch := omega) only [go_sem, e9, e1, e2, e3, m1, m2, m3, mg, mc, mt, mo, mu, false_and, and_self]
  refine JbA (fun E σ => E 9 = I v /\ E 10 = .ptr 29360288 3 0 0 /\ mdI x (HPS HS) G C8 T8 O8 U E σ /\ σ 29360288 = some ⟨29, 3, [.agg [I (legY x v).1, I (legY x v).2.1, I (legY x v).2.2]]⟩) (fun h0 => ?_) (fun h0 => ?_) ?_
  . have hne : x.legs ≠ [] := fun h => by rw [h] at h0; exact absurd h0 (by decide)
    rw [if_neg hne] at hY; have hlp := L17.2 hne
    have hm : ((v : Int)).tmod x.legs.length = ((v % x.legs.length : Nat) : Int) := by rw [L12 (by omega)]; omega
    have hlt : v % x.legs.length < x.legs.length := L1e _ hlp
    generalize v % x.legs.length = j at *; rw [hY]; simp -implicitDefEqProofs (disch := omega) only [go_sem, mdI, e9, e1, e2, e3, m1, m2, m3, mg, mc, mt, mo, mu, hm, false_and, and_self]; try rfl
  . have hnil : x.legs = [] := L0R (by omega)
    rw [if_pos hnil] at hY; rw [hY]; simp -implicitDefEqProofs (disch := omega) only [go_sem, mdI, e9, e1, e2, e3, m1, m2, m3, mg, mc, mt, mo, mu, false_and, and_self]; try rfl
  clear e9 e1 e2 e3 m1 m2 m3 mg mc mt mo mu E σ hY
  rintro E σ ⟨e9, e10, ⟨e1, e2, e3, m1, m2, m3, mg, mc, mt, mo, mu⟩, m10⟩
  generalize (legY x v).1 = u1 at *; generalize (legY x v).2.1 = u2 at *; generalize (legY x v).2.2 = u3 at *; simp -implicitDefEqProofs (disch := omega) only [go_sem, e9, e10, e1, e2, e3, m1, m2, m3, mg, mc, mt, mo, mu, m10, false_and, and_self]
  refine Jaa d1 ?_
  simp -implicitDefEqProofs (disch := omega) only [go_sem, e9, e10, e1, e2, e3, m1, m2, m3, mg, mc, mt, mo, mu, m10, false_and, and_self]
  refine Jaa d2 ?_
  simp -implicitDefEqProofs (disch := omega) only [go_sem, e9, e10, e1, e2, e3, m1, m2, m3, mg, mc, mt, mo, mu, m10, hvv, false_and, and_self]
  refine Jaa f1 ?_ (h4 := by first | exact .inl rfl | exact .inr (Joh _))
  simp -implicitDefEqProofs (disch := omega) only [go_sem, e9, e10, e1, e2, e3, m1, m2, m3, mg, mc, mt, mo, mu, m10, hvv, false_and, and_self]
  refine Jaa g1 ?_
  simp -implicitDefEqProofs (disch := omega) only [go_sem, e9, e10, e1, e2, e3, m1, m2, m3, mg, mc, mt, mo, mu, m10, hvv, false_and, and_self]
  refine Jaa f2 ?_ (h4 := by first | exact .inl rfl | exact .inr (Joh _))
  simp -implicitDefEqProofs (disch := omega) only [go_sem, e9, e10, e1, e2, e3, m1, m2, m3, mg, mc, mt, mo, mu, m10, hvv, false_and, and_self]
  refine Jaa g2 ?_
  simp -implicitDefEqProofs (disch := omega) only [go_sem, e9, e10, e1, e2, e3, m1, m2, m3, mg, mc, mt, mo, mu, m10, hvv, false_and, and_self]
  refine Jaa d4 ?_
  simp -implicitDefEqProofs (disch := omega) only [go_sem, e9, e10, e1, e2, e3, m1, m2, m3, mg, mc, mt, mo, mu, m10, hvv, false_and, and_self]
  refine JbA (fun E σ => E 9 = I v /\ E 13 = .ptr 29360336 6 0 0 /\ mdI x (HPS HS) G C8 T8 O8 U E σ /\ σ 29360336 = some ⟨33, 6, [LGP LM]⟩) (fun h0 => ?_) (fun h0 => ?_) ?_
  . rw [if_pos h0] at hlm; rw [hlm]; simp -implicitDefEqProofs (disch := omega) only [go_sem, e9, e10, e1, e2, e3, m1, m2, m3, mg, mc, mt, mo, mu, m10, false_and, and_self]
    refine Jaa d3 ?_
    simp -implicitDefEqProofs (disch := omega) only [go_sem, mdI, e9, e10, e1, e2, e3, m1, m2, m3, mg, mc, mt, mo, mu, m10, false_and, and_self]; try rfl
  . rw [if_neg h0] at hlm; rw [hlm]; simp -implicitDefEqProofs (disch := omega) only [go_sem, mdI, e9, e10, e1, e2, e3, m1, m2, m3, mg, mc, mt, mo, mu, m10, false_and, and_self]; try rfl
  clear e9 e10 e1 e2 e3 m1 m2 m3 mg mc mt mo mu m10 E σ hlm
  rintro E σ ⟨e9, e13, ⟨e1, e2, e3, m1, m2, m3, mg, mc, mt, mo, mu⟩, m13⟩
  simp -implicitDefEqProofs (disch := omega) only [go_sem, e9, e13, e1, e2, e3, m1, m2, m3, mg, mc, mt, mo, mu, m13, hgl, qg, false_and, and_self]
  refine Jae (HS.length - 1 - (v + 1)) (by omega) ⟨v + 1, by omega, ?_⟩
  rw [hG', s1]; simp -implicitDefEqProofs (disch := omega) only [go_sem, mdI, e9, e13, e1, e2, e3, m1, m2, m3, mg, mc, mt, mo, mu, m13, hgl, qg, L08, L0f, L0z, false_and, and_self]
  try simp [hgl]
def lA : Lg := ⟨1, 2, ⟨10, 70⟩, ⟨510, 570⟩⟩
def lB : Lg := ⟨1, 2, ⟨10, 70⟩, ⟨520, 570⟩⟩
theorem sp1 : Jbx oneC lA.g = some ⟨(1010, 1010), (1070, 1070)⟩ := by decide +kernel
theorem sp2 : Jbx twoC lA.k = some ⟨(1010, 1014), (1070, 1074)⟩ := by decide +kernel
theorem ag1 : Jbr oneC twoC lA = some ⟨(1010, 1010), (1070, 1070)⟩ := by decide +kernel
theorem ag2 : Jbr oneC twoC lB = none := by decide +kernel
theorem lgA : legF lA = true := by decide +kernel
theorem lgB : legF lB = true := by decide +kernel
theorem rcA : recF lA 1 = ⟨#[16, 2, 4, 2, 20, 140, 1]⟩ := by decide +kernel
def xS : ByteArray := ⟨#[120]⟩
def yS : ByteArray := ⟨#[121]⟩
def exE : List ByteArray := [xS, recF lB 2, recF lB 1]
theorem fi1 : JaC exE (recF lB 1) (recF lB 2) = 2 := by decide +kernel
theorem fi2 : JaC exE (recF lB 2) (recF lB 1) = 1 := by decide +kernel
theorem fi3 : JaC [] (recF lB 2) (recF lB 1) = 0 := by decide +kernel
theorem fi4 : JaC exE xS (recF lB 1) = 1 := by decide +kernel
theorem fi5 : JaC exE (recF lB 1) yS = 1 := by decide +kernel
theorem bw1 : Jci exE oneC twoC lB = ((1024, 1070), 2) := by decide +kernel
theorem bw2 : Jci [] oneC twoC lB = ((0, 0), 0) := by decide +kernel
theorem bw3 : Jci [] oneC twoC lA = ((1010, 1070), 0) := by decide +kernel
def exR : Rg := ⟨0, exE⟩
theorem Jsx : regB exR = true := by decide +kernel
def exP : Pt := ⟨Jer (keyF 0) exR 3, ([0, 1, 2] : List Int).map fun i => Ja7 exR 3 i.toNat⟩
def exQ : Pt := ⟨Jer (keyF 0) exR 3, ([1, 2] : List Int).map fun i => Ja7 exR 3 i.toNat⟩
theorem shP : Jc1 (keyF 0) exR 3 [0, 1, 2] = some exP := by
  unfold Jc1
  rw [if_pos ⟨JdF 0, Jsx, by decide, by decide⟩]; rfl
theorem shQ : Jc1 (keyF 0) exR 3 [1, 2] = some exQ := by
  unfold Jc1
  rw [if_pos ⟨JdF 0, Jsx, by decide, by decide⟩]; rfl
theorem Jjn : PtOK exP := JeD shP (by decide)
theorem Joo : PtOK exQ := JeD shQ (by decide)
theorem evP : evF (keyF 0) exP = exE := by
  unfold evF; rw [if_pos (Jbn shP).1]
  show preN 0 [Ja7 exR 3 0, Ja7 exR 3 1, Ja7 exR 3 2] = _
  simp [preN, Ja7]
  rfl
theorem evQ : evF (keyF 0) exQ = [] := by
  unfold evF; rw [if_pos (Jbn shQ).1]
  show preN 0 [Ja7 exR 3 1, Ja7 exR 3 2] = _
  simp [preN, Ja7]
def exN (w : List Int) : Nm := ⟨[(1, 0), (0, 1), (0, 1)], [], [], [600], [], [], w⟩
theorem Jl0 (x : Nm) : evF (Jan x).key (Jan x).part = preF (Jan x).part := by
  unfold evF
  exact if_pos (Jkl _ _ _)
theorem Jon (w : List Int) (hw : ∀ n ∈ w, R64 n) (hl : w.length <= 9223372036854775807) : (exN w).ok where
  hops := show ∀ h ∈ [((1 : Int), (0 : Int)), (0, 1), (0, 1)], R64 h.1 /\ R64 h.2 from fun h hh => by
    simp only [L0h, L1X, or_false] at hh
    rcases hh with rfl | rfl | rfl <;> exact ⟨⟨by decide, by decide⟩, by decide, by decide⟩
  hopsL := show ([((1 : Int), (0 : Int)), (0, 1), (0, 1)] : List (Int × Int)).length <= _ by decide
  legs := fun q h => by cases h
  legsL := L13 _
  crs := fun q h => by cases h
  crsL := L13 _
  bases := fun n hn => by
    obtain rfl := L0p.1 (show n ∈ [(600 : Int)] from hn)
    exact ⟨by decide, by decide⟩
  basesL := show ([600] : List Int).length <= _ by decide
  rates := fun q h => by cases h
  ratesL := L13 _
  offs := fun q h => by cases h
  offsL := L13 _
  wit := hw
  witL := hl
theorem Jiq (w : List Int) : (Jan (exN w)).hops = [(1, 0), (2, 1), (3, 2)] := by
  show Jat [(1, 0), (0, 1), (0, 1)] = _
  decide +kernel
theorem Jop (w : List Int) : (Jan (exN w)).ups = upsN 4 := by
  show upsN ((Jcz [(1, 0), (0, 1), (0, 1)]).2 + 2).toNat = _
  have : ((Jcz [(1, 0), (0, 1), (0, 1)]).2 + 2).toNat = 4 := by decide +kernel
  rw [this]
theorem Jsz (a b : Int) (ha : Jad (a.tdiv 128) 8 ≠ 7) (hb : Jad (b.tdiv 128) 8 ≠ 7) : preF (Jan (exN [a, b])).part = [witE JaN (upsN 4) (Jan (exN [a, b])).legs a, witE JaN (upsN 4) (Jan (exN [a, b])).legs b] := by
  have hu : upsN ((Jcz (exN [a, b]).hops).2 + 2).toNat = upsN 4 := Jop [a, b]
  show preN 0 ((witN [a, b] 2).map fun i => Ja7 (witR JaN (upsN ((Jcz (exN [a, b]).hops).2 + 2).toNat) (Jan (exN [a, b])).legs [a, b]) 2 i.toNat) = _
  rw [hu]
  have hn : witN [a, b] 2 = [0, 1] := by
    simp [witN, gd, ha, hb]
  rw [hn]
  simp [preN, Ja7, witR]
  rfl
theorem JtG : payF (Jan (exN [4, 0])) 1 = 1 := by
  unfold payF
  rw [Jl0, Jsz 4 0 (by decide) (by decide), Jiq, Jop]
  have h1 : witE JaN (upsN 4) (Jan (exN [4, 0])).legs 4 = updS 1 := by
    unfold witE; rw [if_pos (by decide)]; decide +kernel
  have h2 : witE JaN (upsN 4) (Jan (exN [4, 0])).legs 0 = JaN := by
    unfold witE; rw [if_neg (by decide), if_neg (fun h => absurd h.1 (by decide))]
  rw [h1, h2]
  decide +kernel
theorem JtH : payF (Jan (exN [0, 4])) 1 = 2 := by
  unfold payF
  rw [Jl0, Jsz 0 4 (by decide) (by decide), Jiq, Jop]
  have h1 : witE JaN (upsN 4) (Jan (exN [0, 4])).legs 4 = updS 1 := by
    unfold witE; rw [if_pos (by decide)]; decide +kernel
  have h2 : witE JaN (upsN 4) (Jan (exN [0, 4])).legs 0 = JaN := by
    unfold witE; rw [if_neg (by decide), if_neg (fun h => absurd h.1 (by decide))]
  rw [h1, h2]
  decide +kernel
theorem JgD (w : List Int) : (Jan (exN w)).legs.length = 2 := by
  show (Jhu (exN w) (Jat [(1, 0), (0, 1), (0, 1)])).length = 2
  rw [JdG]; decide +kernel
theorem Jsy (w : List Int) {i : Nat} (hi : i < 2) : (gd (Jan (exN w)).legs i).t = (gd [((1 : Int), (0 : Int)), (2, 1), (3, 2)] (i + 1)).1 := by
  have h := (Jgg (Ja1 (exN w)) (i := i) (by rw [JgD]; exact hi)).2.2
  rw [Jiq] at h; exact h
theorem JqW : (Jbs (Jan (exN [4, 0]))).length = 2 /\ (gd (Jbs (Jan (exN [4, 0]))) 0).p = 1 /\ (gd (Jbs (Jan (exN [4, 0]))) 0).q = 2 /\ (gd (Jbs (Jan (exN [4, 0]))) 1).p = 1 /\ (gd (Jbs (Jan (exN [4, 0]))) 1).q = 3 := by
  refine ⟨by rw [Jbk, JgD], ?_⟩
  rw [Jcj _ (by rw [JgD]; omega), Jcj _ (by rw [JgD]; omega)]
  refine ⟨?_, Jsy _ (by omega), JtG, Jsy _ (by omega)⟩
  show payF (Jan (exN [4, 0])) 0 = 1
  unfold payF
  rw [if_pos rfl, Jiq]; rfl
theorem JeV (x : Nm) (hx : x.ok) : (Jan x).ok where
  part := JyU _ _ _
  rds := fun c hc => by
    have := JaO.1 (Ja1 x)
    have := (JdT.1 (L0b.1 this.2.2.1 c hc)).1.2.2
    omega
  good := L0b.1 (JaO.1 (Ja1 x)).2.2.2.1
  hops := by have := (JaO.1 (Ja1 x)).2.1; omega
  legs := by have := (JaO.1 (Ja1 x)).2.1; omega
  cks := by have := (JaO.1 (Ja1 x)).2.1; omega
  tfs := by have := (JaO.1 (Ja1 x)).2.1; omega
  offs := by have := (JaO.1 (Ja1 x)).2.1; omega
  ups := by have := (JaO.1 (Ja1 x)).2.1; omega
theorem JlD (a b : Int) (ha : R64 a) (hb : R64 b) : Ev prog 13 [.agg [.sl 2 [.agg [I 1, I 0], .agg [I 0, I 1], .agg [I 0, I 1]], .v (.slice none 0 0), .v (.slice none 0 0), .sl 1 [I 600], .v (.slice none 0 0), .v (.slice none 0 0), .sl 1 [I a, I b]]] (TPP (Jan (exN [a, b]))) :=
  (Jes (exN [a, b]) (Jon [a, b] (by intro n hn; rcases L0h.1 hn with rfl | hn; exact ha; obtain rfl := L0p.1 hn; exact hb) (by simp))).asIf ⟨Jf7 ⟨JaA _, Jc7 3, Jc7 4, JaA _, Jc7 4, Jc7 1, JaA _, trivial⟩, trivial⟩
set_option maxHeartbeats 16000000 in
theorem Jhd : Ev prog 12 [] (B true) := by
  have h1l : oneC.r.length <= 9223372036854775807 := by decide
  have h2l : twoC.r.length <= 9223372036854775807 := by decide
  have c0 := Jx8; have c0' := JyS
  have c1 : Ev prog 37 [CKP oneC, .agg [I 10, I 70]] (.tup [.agg [I 1010, I 1010, I 1070, I 1070], I 0]) := by
    have := JcI oneC lA.g h1l
    rw [sp1] at this; exact this
  have c2 : Ev prog 37 [CKP twoC, .agg [I 510, I 570]] (.tup [.agg [I 1010, I 1014, I 1070, I 1074], I 0]) := by
    have := JcI twoC lA.k h2l
    rw [sp2] at this; exact this
  have c3 : Ev prog 29 [CKP oneC, CKP twoC, .agg [I 1, I 2, I 10, I 70, I 510, I 570]] (.tup [.agg [I 1010, I 1010, I 1070, I 1070], B true]) := by
    have := Jdw oneC twoC lA h1l h2l
    rw [ag1] at this; exact this
  have c4 : Ev prog 29 [CKP oneC, CKP twoC, .agg [I 1, I 2, I 10, I 70, I 520, I 570]] (.tup [.agg [I 0, I 0, I 0, I 0], B false]) := by
    have := Jdw oneC twoC lB h1l h2l
    rw [ag2] at this; exact this
  have c5 : Ev prog 35 [.agg [I 1, I 2, I 10, I 70, I 510, I 570], I 1] (.tup [Str ⟨#[16, 2, 4, 2, 20, 140, 1]⟩, I 0]) := by
    have := JfX lA 1
    rw [recV, if_pos ⟨lgA, by decide⟩, rcA] at this; exact this
  have c6 : Ev prog 35 [.agg [I 1, I 2, I 10, I 70, I 520, I 570], I 2] (.tup [Str (recF lB 2), I 0]) := by
    have := JfX lB 2
    rw [recV, if_pos ⟨lgB, by decide⟩] at this; exact this
  have c7 : Ev prog 35 [.agg [I 1, I 2, I 10, I 70, I 520, I 570], I 1] (.tup [Str (recF lB 1), I 0]) := by
    have := JfX lB 1
    rw [recV, if_pos ⟨lgB, by decide⟩] at this; exact this
  have c8 : Ev prog 35 [.agg [I 1, I 2, I 10, I 70, I 510, I 570], I 3] (.tup [Str ⟨#[]⟩, I 380]) := by
    have := JfX lA 3
    rw [recV, if_neg (fun h => absurd h.2 (by decide))] at this; exact this
  have c9 := JoW 0 (by omega)
  have c10 : Ev prog 32 [Str (keyF 0), .agg [I 0, .sl 1 [Str ⟨#[120]⟩, Str (recF lB 2), Str (recF lB 1)]], I 3, .sl 1 [I 0, I 1, I 2]] (.tup [PTP exP, I 0]) := by
    have := JfJ (keyF 0) exR 3 [0, 1, 2] (by decide) (by decide) (fun n hn => by simp only [L0h, L1X, or_false] at hn; rcases hn with rfl | rfl | rfl <;> exact ⟨by decide, by decide⟩)
    rw [shP] at this; exact this
  have c11 : Ev prog 32 [Str (keyF 0), .agg [I 0, .sl 1 [Str ⟨#[120]⟩, Str (recF lB 2), Str (recF lB 1)]], I 3, .sl 1 [I 1, I 2]] (.tup [PTP exQ, I 0]) := by
    have := JfJ (keyF 0) exR 3 [1, 2] (by decide) (by decide) (fun n hn => by simp only [L0h, L1X, or_false] at hn; rcases hn with rfl | rfl <;> exact ⟨by decide, by decide⟩)
    rw [shQ] at this; exact this
  have c12 : Ev prog 30 [CKP oneC, CKP twoC, .agg [I 1, I 2, I 10, I 70, I 520, I 570], Str (keyF 0), PTP exP] (.tup [.agg [I 1024, I 1070], I 2, I 0]) := by
    have := Jcc oneC twoC lB (keyF 0) exP lgB Jjn h1l h2l
    rw [evP, bw1] at this; exact this
  have c13 : Ev prog 30 [CKP oneC, CKP twoC, .agg [I 1, I 2, I 10, I 70, I 520, I 570], Str (keyF 0), PTP exQ] (.tup [.agg [I 0, I 0], I 0, I 0]) := by
    have := Jcc oneC twoC lB (keyF 0) exQ lgB Joo h1l h2l
    rw [evQ, bw2] at this; exact this
  have c14 : Ev prog 30 [CKP oneC, CKP twoC, .agg [I 1, I 2, I 10, I 70, I 510, I 570], Str (keyF 0), PTP exQ] (.tup [.agg [I 1010, I 1070], I 0, I 0]) := by
    have := Jcc oneC twoC lA (keyF 0) exQ lgA Joo h1l h2l
    rw [evQ, bw3] at this; exact this
  have c15 := fun a b => Jqc a b
  have c16 : Ev prog 21 [.agg [I 1010, I 1014, I 1070, I 1074]] (.agg [I 1014, I 1070]) := Jfk ⟨(1010, 1014), (1070, 1074)⟩
  have d1 : Ev prog 19 [Str (keyF 0), PTP exP, Str (recF lB 1), Str (recF lB 2)] (I 2) := by
    have := JcT (keyF 0) exP (recF lB 1) (recF lB 2) Jjn
    rw [evP, fi1] at this; exact this
  have d2 : Ev prog 19 [Str (keyF 0), PTP exP, Str (recF lB 2), Str (recF lB 1)] (I 1) := by
    have := JcT (keyF 0) exP (recF lB 2) (recF lB 1) Jjn
    rw [evP, fi2] at this; exact this
  have d3 : Ev prog 19 [Str (keyF 0), PTP exQ, Str (recF lB 2), Str (recF lB 1)] (I 0) := by
    have := JcT (keyF 0) exQ (recF lB 2) (recF lB 1) Joo
    rw [evQ, fi3] at this; exact this
  have d4 : Ev prog 19 [Str (keyF 0), PTP exP, Str ⟨#[120]⟩, Str (recF lB 1)] (I 1) := by
    have := JcT (keyF 0) exP xS (recF lB 1) Jjn
    rw [evP, fi4] at this; exact this
  have d5 : Ev prog 19 [Str (keyF 0), PTP exP, Str (recF lB 1), Str ⟨#[121]⟩] (I 1) := by
    have := JcT (keyF 0) exP (recF lB 1) yS Jjn
    rw [evP, fi5] at this; exact this
  have k1 := JlD 4 0 ⟨by decide, by decide⟩ ⟨by decide, by decide⟩
  have k2 := JlD 0 4 ⟨by decide, by decide⟩ ⟨by decide, by decide⟩
  have ok1 := JeV (exN [4, 0]) (Jon _ (fun n hn => by simp only [L0h, L1X, or_false] at hn; rcases hn with rfl | rfl <;> exact ⟨by decide, by decide⟩) (by decide))
  have ok2 := JeV (exN [0, 4]) (Jon _ (fun n hn => by simp only [L0h, L1X, or_false] at hn; rcases hn with rfl | rfl <;> exact ⟨by decide, by decide⟩) (by decide))
  have k3 := JeJ (Jan (exN [4, 0])) ok1 (Ja1 _)
  have k4 : Ev prog 26 [TPP (Jan (exN [0, 4])), I 1] (.tup [I 2, I 0]) := by
    have := Je2 (Jan (exN [0, 4])) ok2 1
    rw [payV, if_pos ⟨Ja1 _, by omega, by rw [JgD]; omega⟩, show payF (Jan (exN [0, 4])) (1 : Int).toNat = 2 from JtH] at this
    exact this
  obtain ⟨b1, b2, b3, b4, b5⟩ := JqW; clear h1l h2l ok1 ok2; generalize Jbs (Jan (exN [4, 0])) = L at *; generalize Jan (exN [4, 0]) = t1 at *; generalize Jan (exN [0, 4]) = t2 at *; generalize exP = p at *; generalize exQ = q at *; generalize recF lB 1 = R1 at *; generalize recF lB 2 = R2 at *; generalize oneC = o1 at *; generalize twoC = o2 at *; generalize keyF 0 = KEY at *; obtain ⟨o11, o12⟩ := o1; obtain ⟨o21, o22⟩ := o2
  obtain ⟨⟨pc, pn, pr, ps⟩, pl⟩ := p
  obtain ⟨⟨qc, qn, qr, qs⟩, ql⟩ := q
  obtain ⟨s1, s2, s3, s4, s5, s6, ⟨⟨s7, s8, s9, s10⟩, s11⟩, s12, s13⟩ := t1
  obtain ⟨u1, u2, u3, u4, u5, u6, ⟨⟨u7, u8, u9, u10⟩, u11⟩, u12, u13⟩ := t2
  refine EW [4, 5, 6, 7, 14, 15, 16] func12 ?_
  simp -implicitDefEqProofs (disch := omega) only [go_sem, ntmps12]
  refine Jcu Plain.mono ?_
  simp -implicitDefEqProofs (disch := omega) only [go_sem, false_and, and_self]
  refine Jaa c0 ?_ (h4 := by first | exact .inl rfl | exact .inr (JcB _))
  simp -implicitDefEqProofs (disch := omega) only [go_sem, false_and, and_self]
  refine Jaa c1 ?_
  simp -implicitDefEqProofs (disch := omega) only [go_sem, false_and, and_self]
  refine Jcu Plain.mono ?_
  simp -implicitDefEqProofs (disch := omega) only [go_sem, false_and, and_self]
  refine Jaa c0' ?_ (h4 := by first | exact .inl rfl | exact .inr (JcB _))
  simp -implicitDefEqProofs (disch := omega) only [go_sem, false_and, and_self]
  refine Jaa c2 ?_
  simp -implicitDefEqProofs (disch := omega) only [go_sem, false_and, and_self]
  refine Jcu Plain.mono ?_
  simp -implicitDefEqProofs (disch := omega) only [go_sem, false_and, and_self]
  refine Jaa c0 ?_ (h4 := by first | exact .inl rfl | exact .inr (JcB _))
  simp -implicitDefEqProofs (disch := omega) only [go_sem, false_and, and_self]
  refine Jaa c0' ?_ (h4 := by first | exact .inl rfl | exact .inr (JcB _))
  simp -implicitDefEqProofs (disch := omega) only [go_sem, false_and, and_self]
  refine Jaa c3 ?_
  simp -implicitDefEqProofs (disch := omega) only [go_sem, false_and, and_self]
  refine Jcu Plain.mono ?_
  simp -implicitDefEqProofs (disch := omega) only [go_sem, false_and, and_self]
  refine Jaa c0 ?_ (h4 := by first | exact .inl rfl | exact .inr (JcB _))
  simp -implicitDefEqProofs (disch := omega) only [go_sem, false_and, and_self]
  refine Jaa c0' ?_ (h4 := by first | exact .inl rfl | exact .inr (JcB _))
  simp -implicitDefEqProofs (disch := omega) only [go_sem, false_and, and_self]
  refine Jaa c4 ?_
  simp -implicitDefEqProofs (disch := omega) only [go_sem, false_and, and_self]
  refine Jaa c5 ?_
  simp -implicitDefEqProofs (disch := omega) only [go_sem, false_and, and_self]
  refine Jaa c6 ?_
  simp -implicitDefEqProofs (disch := omega) only [go_sem, false_and, and_self]
  refine Jaa c7 ?_
  simp -implicitDefEqProofs (disch := omega) only [go_sem, false_and, and_self]
  refine Jaa c9 ?_
  simp -implicitDefEqProofs (disch := omega) only [go_sem, false_and, and_self]
  refine Jam rfl ?_
  refine JaS [27264512, 27264544] ?_
  simp -implicitDefEqProofs (disch := omega) only [go_sem, false_and, and_self]
  refine Jaa c10 ?_
  simp -implicitDefEqProofs (disch := omega) only [go_sem, false_and, and_self]
  refine Jam rfl ?_
  refine JaS [27264672, 27264704] ?_
  simp -implicitDefEqProofs (disch := omega) only [go_sem, false_and, and_self]
  refine Jaa c11 ?_
  simp -implicitDefEqProofs (disch := omega) only [go_sem, false_and, and_self]
  refine Jcu Plain.mono ?_
  simp -implicitDefEqProofs (disch := omega) only [go_sem, false_and, and_self]
  refine Jaa c0 ?_ (h4 := by first | exact .inl rfl | exact .inr (JcB _))
  simp -implicitDefEqProofs (disch := omega) only [go_sem, false_and, and_self]
  refine Jaa c0' ?_ (h4 := by first | exact .inl rfl | exact .inr (JcB _))
  simp -implicitDefEqProofs (disch := omega) only [go_sem, false_and, and_self]
  refine Jaa c12 ?_
  simp -implicitDefEqProofs (disch := omega) only [go_sem, false_and, and_self]
  refine Jcu Plain.mono ?_
  simp -implicitDefEqProofs (disch := omega) only [go_sem, false_and, and_self]
  refine Jaa c0 ?_ (h4 := by first | exact .inl rfl | exact .inr (JcB _))
  simp -implicitDefEqProofs (disch := omega) only [go_sem, false_and, and_self]
  refine Jaa c0' ?_ (h4 := by first | exact .inl rfl | exact .inr (JcB _))
  simp -implicitDefEqProofs (disch := omega) only [go_sem, false_and, and_self]
  refine Jaa c13 ?_
  simp -implicitDefEqProofs (disch := omega) only [go_sem, false_and, and_self]
  refine Jcu Plain.mono ?_
  simp -implicitDefEqProofs (disch := omega) only [go_sem, false_and, and_self]
  refine Jaa c0 ?_ (h4 := by first | exact .inl rfl | exact .inr (JcB _))
  simp -implicitDefEqProofs (disch := omega) only [go_sem, false_and, and_self]
  refine Jaa c0' ?_ (h4 := by first | exact .inl rfl | exact .inr (JcB _))
  simp -implicitDefEqProofs (disch := omega) only [go_sem, false_and, and_self]
  refine Jaa c14 ?_
  simp -implicitDefEqProofs (disch := omega) only [go_sem, false_and, and_self]
  refine Jaa c8 ?_
  simp -implicitDefEqProofs (disch := omega) only [go_sem, false_and, and_self]
  refine Jaa (c15 _ _) ?_
  simp -implicitDefEqProofs (disch := omega) only [go_sem, false_and, and_self]
  refine Jaa (c15 _ _) ?_
  simp -implicitDefEqProofs (disch := omega) only [go_sem, false_and, and_self]
  refine Jaa (c15 _ _) ?_
  simp -implicitDefEqProofs (disch := omega) only [go_sem, false_and, and_self]
  refine Jaa (c15 _ _) ?_
  simp -implicitDefEqProofs (disch := omega) only [go_sem, false_and, and_self]
  refine Jaa c16 ?_
  simp -implicitDefEqProofs (disch := omega) only [go_sem, false_and, and_self]
  refine Jaa d1 ?_
  simp -implicitDefEqProofs (disch := omega) only [go_sem, false_and, and_self]
  refine Jaa d2 ?_
  simp -implicitDefEqProofs (disch := omega) only [go_sem, false_and, and_self]
  refine Jaa d3 ?_
  simp -implicitDefEqProofs (disch := omega) only [go_sem, false_and, and_self]
  refine Jaa d4 ?_
  simp -implicitDefEqProofs (disch := omega) only [go_sem, false_and, and_self]
  refine Jaa d5 ?_
  simp -implicitDefEqProofs (disch := omega) only [go_sem, false_and, and_self]
  refine Jam rfl ?_
  refine JaS [27267504, 27267520, 27267536] ?_
  simp -implicitDefEqProofs (disch := omega) only [go_sem, false_and, and_self]
  refine Jaa k1 ?_
  simp -implicitDefEqProofs (disch := omega) only [go_sem, false_and, and_self]
  refine Jam rfl ?_
  refine JaS [27267632, 27267648, 27267664] ?_
  simp -implicitDefEqProofs (disch := omega) only [go_sem, false_and, and_self]
  refine Jaa k2 ?_
  simp -implicitDefEqProofs (disch := omega) only [go_sem, false_and, and_self]
  refine Jaa k3 ?_
  simp -implicitDefEqProofs (disch := omega) only [go_sem, false_and, and_self]
  refine Jaa k4 ?_
  simp -implicitDefEqProofs (disch := omega) only [go_sem, b1, b2, b3, b4, b5, beq_self_eq_true]
  refine Jab (fun h => absurd rfl h) (fun _ => ?_)
  simp -implicitDefEqProofs (disch := omega) only [go_sem, b1, b2, b3, b4, b5, beq_self_eq_true, results12]; try simp
end Go.Proofs.YtnpbhgeffapojaaGreatDoor
namespace Go.Vai
open Go.RowKit
end Go.Vai
set_option maxRecDepth 100000
namespace Go.Proofs.YtnpbhgeffapojaaGreatDoor
open Go.Proofs.Tryz
open Go.Vai Go Go.Proofs
theorem JbJ (y : Cr) : y.clk.r.length <= 9223372036854775807 := by
  have := (JdT.1 (Jik y.d y.s y.r y.at_).2).1.2.2
  unfold Cr.clk
  omega
theorem Jx3 : PtOK default := ⟨by decide, by decide, fun x h => by cases h⟩
theorem JdQ (a b : Ck) (l : Lg) (s : Sn) (hl : legF l = true) (ha : a.r.length <= 9223372036854775807) (hb : b.r.length <= 9223372036854775807) (hs : Jbr a b l = some s) :
    Ev prog 30 [CKP a, CKP b, LGP l, Str ⟨#[]⟩, .agg [I 0, I 0, .v (.string ByteArray.empty), .v (.string ByteArray.empty), .v (.slice none 0 0)]] (.tup [WNP (JaZ s), I 0, I 0]) := by
  have c := Jcc a b l ⟨#[]⟩ default hl Jx3 ha hb
  have hw : Jci (evF ⟨#[]⟩ default) a b l = (JaZ s, 0) := by unfold Jci; rw [hs]
  rw [hw] at c
  exact c.asIf ⟨JaA _, JaA _, JaA _, JaA _, Jf7 ⟨JaA _, JaA _, JaA _, JaA _, Jc7 3, trivial⟩, trivial⟩
@[go_sem] theorem JwU (l : List T3) (a b c : Int) : l.map QT ++ [.agg [.v (.int .i64 a), .v (.int .i64 b), .v (.int .i64 c)]] = (l ++ [(a, b, c)]).map QT := by simp
theorem Jus : R64 0 := ⟨by decide, by decide⟩
theorem Jxg (d s : Int) (r : List Int) (l m : List (Int × Int × Int)) (a b : Int) : Cr.cnt ⟨d, s, r, l⟩ a b = Cr.cnt ⟨d, s, r, m⟩ a b := rfl
end Go.Proofs.YtnpbhgeffapojaaGreatDoor
set_option maxRecDepth 100000
namespace Go.Vai
open Go.RowKit Go.ChangeShapes Go.WideShapes
theorem JgO {H : Type} {enc : TypeId × Value -> H} {C : Checked} {os : Os} {f : FuncId} {fn : Func} {s : ChangeSpec} {conds : List PathCond} {fresh handsOn : Bool} {tb : TypeId} {ps : List (AV -> Prop)} {X : World -> Array Value -> Prop}
    (hX : ∀ (w w' : World) (args : Array Value), w.heap = w'.heap -> X w args -> X w' args)
    (own : ownKnob C.prog.godebug = none) (started : os.Started) (noInit : C.prog.inits.idxOf? f = none) (hfn : C.prog.funcs[f]? = some fn)
    (witness : ∃ (w : World) (tape : Tape) (i : Input), w.os = os /\ (w.forCall tape i).Shaped C.prog /\ i.vars = [] /\ Input.okWide C.prog (w.forCall tape i) .any w.heap.size f i /\
      ((s.pre enc C.prog fn conds false (w.forCall tape i).memory i.args /\ X (w.forCall tape i).memory i.args) /\ sizedMet enc C.prog fn (OpenSpec.ofChange s) false (w.forCall tape i).memory i.args) /\ ({} : Assume).holds C.prog (lone (Frame.enter C.prog f i.args .normal) [] (w.forCall tape i)))
    (hl : laidOutB C.prog = true) (hr : (fn.params.toList.all fun t => C.prog.readableRec t && decide (t < C.prog.types.size)) = true) (hrt : fn.resultTypes = #[tb]) (htb : C.prog.underlying tb = some .bool) (hvars : s.vars = [])
    (hs : ∀ ds : List (DataW H), ds.length = fn.params.size -> s.fn H ds = { results := [.lit (.bool true)], args := ds })
    (hop : ∀ w : World, JeG C.prog enc w fn.params.toList ps) (hev : ∀ avs, AllP ps avs -> Ev C.prog f avs (.v (.bool true))) (hgt : ∀ (w : World) (args : Array Value), X w args -> GOK w (Here w)) :
    ReturnsInHanded {} C os f .any (fun w args => (s.pre enc C.prog fn conds false w args /\ X w args) /\ sizedMet enc C.prog fn (OpenSpec.ofChange s) false w args) (s.post enc C.prog fn false fresh handsOn false) := by
  refine returnsInHanded_of_change_and (C := C) (X := X) hX own started noInit hfn witness ?_
  intro W base args ds gs before hval hW _ _ hL _
  obtain ⟨p, q, hA, hV, e, hfz, hnd⟩ := hW
  obtain ⟨avs, has, hrep⟩ := JhV (hop W) hA (fun j t v hj hv => hval j t v (by simpa using hj) (by simpa using hv))
  have := (hev avs has avs _ ⟨rfl, rfl⟩).2 W (Here W) args.toList (fun b hb => hb) (hgt W args hL) hrep
  refine (this.mono ?_)
  rintro e' W' ⟨y, rfl, hx, Im', _, _, hR⟩
  obtain ⟨ob, h1, _⟩ := hR
  have hy : y = .bool true := by
    unfold R1 at h1
    cases h1.2 with | v => rfl
  subst hy
  exact ⟨_, rfl, Jpu hl (fun t ht => by simpa using L0b.1 hr t ht) hrt htb hvars hs ⟨p, q, hA, hV, e, hfz, hnd⟩ hx⟩
end Go.Vai
namespace Go.Proofs.YtnpbhgeffapojaaGreatDoor
open Go.Proofs.Tryz
open Go.Vai Go Go.Proofs Go.RowKit
theorem own3 : ownKnob Tryz.checked.prog.godebug = none := by kernel_rfl
theorem JeU : laidOutB Tryz.checked.prog = true := by kernel_rfl
abbrev Jdt : List (String × DataW Unit) := [("dialtone/digest.round", Rows.laid_dialtone_digest_round)]
theorem Jxz : prog.globalNamed "dialtone/digest.round" = some 0 := by kernel_rfl
def Jh4 : List Int := (gtab.headD (0, [])).2.map fun v => match v with | .int _ n => n | _ => 0
theorem JtP : gtab = [(0, Jh4.map (Value.int .u32))] := by kernel_rfl
theorem Jt6 : (Rows.laid_dialtone_digest_round : DataW Unit) = .agg (Jh4.map fun n => .lit (.int .u32 n)) := by kernel_rfl
theorem Jk9 {W : World} (h : laidMetH prog Jdt W) : ∀ (i : Nat) (v : Value), (Jh4.map (Value.int .u32))[i]? = some v -> W.cell? ⟨0, i, none⟩ = some v := by
  rw [MakeChecks.laidMetH_plain _ _ _ (by kernel_rfl)] at h
  obtain ⟨ps, ⟨g0, t0, cs0, f0, p0, q0, hg0, ht0, hv0, hd0, _, _⟩, _, _⟩ := h
  obtain rfl := Option.some.inj (Jxz.symm.trans hg0)
  have tR : (prog.globals[0]?).map (·.type) = some t0 := ht0
  intro i v hv
  rw [World.var?_cell hg0 hv0 i]
  have t79 : t0 = 296 := by
    have : (prog.globals[0]?).map (·.type) = some 296 := by kernel_rfl
    exact Option.some.inj (tR.symm.trans this)
  subst t79
  obtain ⟨xs, m1, rfl, hx1, hlen, hn, hel⟩ := DataW.trod_array (n := 64) (e := 273) (by kernel_rfl) hd0
  have c1 : prog.cellsOf 273 = 1 := by kernel_rfl
  simp only [Prod.mk.injEq] at hx1; have hx := hx1.1; rw [Jt6] at hx; simp only [DataW.agg.injEq] at hx
  have hrl : Jh4.length = 64 := by kernel_rfl
  have hi : i < 64 := by
    have := (L04.1 hv).1
    rw [L05, hrl] at this; exact this
  have h1 := hel i hi; rw [c1, L0X] at h1
  cases hxi : xs[i]? with
  | none => rw [L1U] at hxi; omega
  | some x =>
    rw [hxi] at h1
    obtain ⟨n, e1, e2, _⟩ := DataW.trod_int (k := .u32) (by kernel_rfl) h1
    have h2 : (xs.map (·.1))[i]? = some x.1 := by rw [L03, hxi]; rfl
    rw [<- hx, L03] at h2
    obtain ⟨r, hr, hr2⟩ := L0i.1 h2
    rw [L03, hr] at hv; have hv := Option.some.inj hv; rw [e2] at hr2; simp only [DataW.lit.injEq, Lit.int.injEq, true_and] at hr2
    have h3 : (cs0.toList.drop i)[0]? = some (.int .u32 n) := by
      have : ((cs0.toList.drop i).take 1)[0]? = some (.int .u32 n) := by rw [e1]; rfl
      rwa [L0l, if_pos (by omega)] at this
    rw [L0B, L0U] at h3; rw [<- L0J, h3, <- hv, hr2]
theorem gok {W : World} (h : laidMetH prog Jdt W) : GOK W (Here W) := by
  intro p hp
  rw [JtP, L0p] at hp; subst hp; have hc := Jk9 h
  refine ⟨?_, fun i v hv => ⟨hc i v hv, ?_⟩⟩
  . have h0 : (Jh4.map (Value.int .u32))[0]? = some (.int .u32 (gd Jh4 0)) := by kernel_rfl
    have := hc 0 _ h0
    show 0 < W.heap.size
    rcases Nat.eq_zero_or_pos W.heap.size with h1 | h1
    . have : W.heap[0]? = none := Array.getElem?_eq_none (by omega)
      simp [World.cell?, this] at *
    . exact h1
  . obtain ⟨r, _, rfl⟩ := L06.1 (L01 hv)
    rfl
theorem JeN (os : Os) (args : Array Value) : laidMetH prog Jdt ((World.doorLaid prog 14 os).forCall (fun _ _ => 0) ⟨#[], args, []⟩).memory :=
  laidMetH_of_parts3 (fuel := 8) (laidMet_of_run' 8 (by kernel_rfl) (by kernel_rfl)) (by kernel_rfl) (by kernel_rfl)
section
variable {H : Type} {enc : TypeId × Value -> H} {w : World}
def OI (a : AV) : Prop := ∃ n, R64 n /\ a = I n
theorem wf64 {n : Int} : (Lit.int .i64 n).wf = true ↔ R64 n := by
  have h1 : IntKind.i64.min = -9223372036854775808 := by decide
  have h2 : IntKind.i64.max = 9223372036854775807 := by decide
  simp [Lit.wf, R64, h1, h2]
theorem Jdh {t : TypeId} (ht : prog.underlying t = some (.int .i64)) : Jb9 prog enc w t OI :=
  (Jpk ht).mono (fun a ⟨n, h, e⟩ => ⟨n, wf64.1 h, e⟩) fun a ⟨n, h, e⟩ => ⟨n, wf64.2 h, e⟩
def OSL (a : AV) : Prop := ∃ l : List Int, l.length <= 9223372036854775807 /\ (∀ x ∈ l, R64 x) /\ a = SL l
theorem Jl3 : Jb9 prog enc w 25 OSL :=
  (Jcr (T := Int) (q := R64) (f := I) (e := 3) (sz := 1) (by kernel_rfl) (by kernel_rfl) (by decide) ((Jdh (by kernel_rfl)).mono (fun a ⟨n, h, e⟩ => ⟨n, h, e⟩) fun a ⟨n, h, e⟩ => ⟨n, h, e⟩)).mono
    (fun a ⟨l, h, h1, e⟩ => ⟨l, h, h1, e⟩) fun a ⟨l, h, h1, e⟩ => ⟨l, h, h1, e⟩
def OT (a : AV) : Prop := ∃ x y z : Int, R64 x /\ R64 y /\ R64 z /\ a = .agg [I x, I y, I z]
theorem Jph : Jb9 prog enc w 29 OT :=
  (Jew (T := Int) (q := R64) (f := I) (e := 3) (n := 3) (sz := 1) (by kernel_rfl) (by kernel_rfl) (by kernel_rfl) (Jdh (by kernel_rfl))).mono
    (fun a ⟨l, h, h1, e⟩ => by
      match l, h with
      | [x, y, z], _ => exact ⟨x, y, z, h1 x (by simp), h1 y (by simp), h1 z (by simp), e⟩)
    fun a ⟨x, y, z, h1, h2, h3, e⟩ => ⟨[x, y, z], rfl, by simp [h1, h2, h3], e⟩
def OT1 (a : AV) : Prop := ∃ q : T3, T3ok q /\ a = QT q
theorem Jrm : Jb9 prog enc w 29 OT1 :=
  Jph.mono (fun a ⟨x, y, z, h1, h2, h3, e⟩ => ⟨(x, y, z), ⟨h1, h2, h3⟩, e⟩) fun a ⟨q, h, e⟩ => ⟨q.1, q.2.1, q.2.2, h.1, h.2.1, h.2.2, e⟩
def OTS (a : AV) : Prop := ∃ l : List T3, l.length <= 9223372036854775807 /\ (∀ x ∈ l, T3ok x) /\ a = QTS l
theorem Jl4 : Jb9 prog enc w 23 OTS :=
  (Jcr (T := T3) (q := T3ok) (f := QT) (e := 29) (sz := 3) (by kernel_rfl) (by kernel_rfl) (by decide) Jrm).mono
    (fun a ⟨l, h, h1, e⟩ => ⟨l, h, h1, e⟩) fun a ⟨l, h, h1, e⟩ => ⟨l, h, h1, e⟩
def OC (a : AV) : Prop := ∃ y : Cr, y.ok /\ a = CRP y
theorem Jd0 : Jb9 prog enc w 35 OC :=
  (JfV (ps := [OI, OI, OSL, OTS]) (Tryz.underlying35) ⟨Jdh (by kernel_rfl), Jdh (by kernel_rfl), Jl3, Jl4, trivial⟩ (by kernel_rfl) (by kernel_rfl)).mono
    (fun a h => by
      obtain ⟨as', ha, rfl⟩ := h
      revert ha
      exact JnI (Q := fun l => OC (AV.agg (l.flatMap AV.cells))) (fun a b c d ⟨f, h1, e1⟩ ⟨m, h2, e2⟩ ⟨k, h3, h4, e3⟩ ⟨q, h5, h6, e4⟩ => ⟨⟨f, m, k, q⟩, ⟨h1, h2, h4, h3, h6, h5⟩, by subst e1; subst e2; subst e3; subst e4; rfl⟩) as')
    fun a ⟨u, h, e⟩ => ⟨[I u.d, I u.s, SL u.r, QTS u.at_], ⟨⟨u.d, h.1, rfl⟩, ⟨u.s, h.2.1, rfl⟩, ⟨u.r, h.2.2.2.1, h.2.2.1, rfl⟩, ⟨u.at_, h.2.2.2.2.2, h.2.2.2.2.1, rfl⟩, trivial⟩, e⟩
end
section
variable {H : Type} {enc : TypeId × Value -> H} {w : World}
def OP (a : AV) : Prop := ∃ x y : Int, R64 x /\ R64 y /\ a = .agg [I x, I y]
theorem Jx6 : Jb9 prog enc w 104 OP :=
  (Jew (T := Int) (q := R64) (f := I) (e := 3) (n := 2) (sz := 1) (by kernel_rfl) (by kernel_rfl) (by kernel_rfl) (Jdh (by kernel_rfl))).mono
    (fun a ⟨l, h, h1, e⟩ => by
      match l, h with
      | [x, y], _ => exact ⟨x, y, h1 x (by simp), h1 y (by simp), e⟩)
    fun a ⟨x, y, h1, h2, e⟩ => ⟨[x, y], rfl, by simp [h1, h2], e⟩
def OP1 (a : AV) : Prop := ∃ q : Int × Int, (R64 q.1 /\ R64 q.2) /\ a = HPP q
theorem Jul : Jb9 prog enc w 104 OP1 :=
  Jx6.mono (fun a ⟨x, y, h1, h2, e⟩ => ⟨(x, y), ⟨h1, h2⟩, e⟩) fun a ⟨q, h, e⟩ => ⟨q.1, q.2, h.1, h.2, e⟩
def OPS (a : AV) : Prop := ∃ l : List (Int × Int), l.length <= 9223372036854775807 /\ (∀ x ∈ l, R64 x.1 /\ R64 x.2) /\ a = HPS l
theorem Jum : Jb9 prog enc w 22 OPS :=
  (Jcr (T := Int × Int) (q := fun x => R64 x.1 /\ R64 x.2) (f := HPP) (e := 104) (sz := 2) (by kernel_rfl) (by kernel_rfl) (by decide) Jul).mono
    (fun a ⟨l, h, h1, e⟩ => ⟨l, h, h1, e⟩) fun a ⟨l, h, h1, e⟩ => ⟨l, h, h1, e⟩
def OQ1 (a : AV) : Prop := ∃ x : Q4, Q4ok x /\ a = QP x
theorem Jx5 : Jb9 prog enc w 157 OQ1 :=
  (Jew (T := Int) (q := R64) (f := I) (e := 3) (n := 4) (sz := 1) (by kernel_rfl) (by kernel_rfl) (by kernel_rfl) (Jdh (by kernel_rfl))).mono
    (fun a ⟨l, h, h1, e⟩ => by
      match l, h with
      | [x, y, z, u], _ => exact ⟨⟨x, y, z, u⟩, ⟨h1 x (by simp), h1 y (by simp), h1 z (by simp), h1 u (by simp)⟩, e⟩)
    fun a ⟨x, h, e⟩ => ⟨[x.a, x.b, x.c, x.d], rfl, by obtain ⟨h1, h2, h3, h4⟩ := h; simp [h1, h2, h3, h4], e⟩
def OQ (a : AV) : Prop := ∃ l : List Q4, l.length <= 9223372036854775807 /\ (∀ x ∈ l, Q4ok x) /\ a = QL l
theorem Jpg : Jb9 prog enc w 26 OQ :=
  (Jcr (T := Q4) (q := Q4ok) (f := QP) (e := 157) (sz := 4) (by kernel_rfl) (by kernel_rfl) (by decide) Jx5).mono
    (fun a ⟨l, h, h1, e⟩ => ⟨l, h, h1, e⟩) fun a ⟨l, h, h1, e⟩ => ⟨l, h, h1, e⟩
def OCS (a : AV) : Prop := ∃ l : List Cr, l.length <= 9223372036854775807 /\ (∀ x ∈ l, x.ok) /\ a = CRS l
theorem Jpf : Jb9 prog enc w 24 OCS :=
  (Jcr (T := Cr) (q := Cr.ok) (f := CRP) (e := 35) (sz := 4) (by kernel_rfl) (by kernel_rfl) (by decide) Jd0).mono
    (fun a ⟨l, h, h1, e⟩ => ⟨l, h, h1, e⟩) fun a ⟨l, h, h1, e⟩ => ⟨l, h, h1, e⟩
def ON (a : AV) : Prop := ∃ x : Nm, x.ok /\ a = NMP x
theorem JjR : Jb9 prog enc w 28 ON :=
  (JfV (ps := [OPS, OTS, OCS, OSL, OQ, OSL, OSL]) (Tryz.underlying28) ⟨Jum, Jl4, Jpf, Jl3, Jpg, Jl3, Jl3, trivial⟩ (by kernel_rfl) (by kernel_rfl)).mono
    (fun a h => by
      obtain ⟨as', ha, rfl⟩ := h
      revert ha
      exact Jr8 (Q := fun l => ON (AV.agg (l.flatMap AV.cells))) (fun a b c d e f g ⟨x1, h1, i1, e1⟩ ⟨x2, h2, i2, e2⟩ ⟨x3, h3, i3, e3⟩ ⟨x4, h4, i4, e4⟩ ⟨x5, h5, i5, e5⟩ ⟨x6, h6, i6, e6⟩ ⟨x7, h7, i7, e7⟩ =>
        ⟨⟨x1, x2, x3, x4, x5, x6, x7⟩, ⟨i1, h1, i2, h2, i3, h3, i4, h4, i5, h5, i6, h6, i7, h7⟩, by subst e1; subst e2; subst e3; subst e4; subst e5; subst e6; subst e7; rfl⟩) as')
    fun a ⟨u, h, e⟩ => ⟨[HPS u.hops, QTS u.legs, CRS u.crs, SL u.bases, QL u.rates, SL u.offs, SL u.wit], ⟨⟨_, h.hopsL, h.hops, rfl⟩, ⟨_, h.legsL, h.legs, rfl⟩, ⟨_, h.crsL, h.crs, rfl⟩, ⟨_, h.basesL, h.bases, rfl⟩, ⟨_, h.ratesL, h.rates, rfl⟩, ⟨_, h.offsL, h.offs, rfl⟩, ⟨_, h.witL, h.wit, rfl⟩, trivial⟩, e⟩
end
end Go.Proofs.YtnpbhgeffapojaaGreatDoor

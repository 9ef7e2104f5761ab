/- Chapter 38, LegPays: each leg has one payer; who used an old version pays if, and only if, the newer one was provably known. Conditions: the package variable digest.round reads as the program's text lays it (tied). -/
import Derived.Test.YtnpbhgeffapojaaGreatDoorKI
set_option linter.all false
set_option maxRecDepth 100000
namespace Go.Proofs.YtnpbhgeffapojaaGreatDoor
open Go.Proofs.Tryz
open Go.Vai Go Go.Proofs
def thS : ByteArray := ⟨#[115, 111, 109, 101, 116, 104, 105, 110, 103, 32, 101, 108, 115, 101]⟩
theorem trip_part {t : Tp} (h : Jc5 t = true) {p : Pt} (hp : Jb4 t.key p = true) : Jc5 { t with part := p } = true := by
  rw [JaO] at h ⊢
  exact ⟨hp, h.2⟩
theorem ok_part {t : Tp} (h : t.ok) {p : Pt} (hp : PtOK p) : ({ t with part := p } : Tp).ok := ⟨hp, h.rds, h.good, h.hops, h.legs, h.cks, h.tfs, h.offs, h.ups⟩
theorem size_ne {a b : ByteArray} (h : a.size ≠ b.size) : a ≠ b := fun e => h (by rw [e])
def paR (l : List ByteArray) : Rg := ⟨0, l⟩
def paP (l : List ByteArray) : Pt := ⟨Jer (keyS 0) (paR l) l.length, ([0, 1] : List Int).map fun i => Ja7 (paR l) l.length i.toNat⟩
theorem pa_show {l : List ByteArray} (h2 : 2 <= l.length) (h3 : l.length <= 3) (hs : ∀ s ∈ l, s.size <= 1000) : Jc1 (keyS 0) (paR l) l.length [0, 1] = some (paP l) := by
  unfold Jc1; rw [if_pos, L18]
  . rfl
  . refine ⟨JdF 0, Jb2.2 ⟨by simp only [paR]; omega, by simp only [paR]; omega, hs⟩, by simp only [paR]; omega, ?_⟩
    rw [L18, ascN, ascN, ascN, Bool.and_true, L00, decide_eq_true_iff, decide_eq_true_iff]
    refine ⟨⟨by omega, fun q hq => by cases hq⟩, by omega, fun q hq => by cases hq; decide⟩
theorem pa_ev {l : List ByteArray} (h2 : 2 <= l.length) (h3 : l.length <= 3) (hs : ∀ s ∈ l, s.size <= 1000) : evF (keyS 0) (paP l) = [gd l 0, gd l 1] := by
  unfold evF; rw [if_pos (Jbn (pa_show h2 h3 hs)).1]
  show preN 0 [Ja7 (paR l) l.length 0, Ja7 (paR l) l.length 1] = _
  simp [preN, Ja7, paR]
theorem pay_known {t : Tp} {k : Nat} (hk : 0 < k) (hv : (gd t.hops (k - 1)).2 + 1 < t.ups.length) {p : Pt} (h : JaC (evF t.key p) (gd t.ups ((gd t.hops (k - 1)).2 + 1).toNat) t.call = 1) : payF { t with part := p } k = (gd t.hops (k - 1)).1 := by
  unfold payF
  rw [if_neg (by omega)]
  exact if_pos ⟨hv, h⟩
theorem pay_unknown {t : Tp} {k : Nat} (hk : 0 < k) {p : Pt} (h : JaC (evF t.key p) (gd t.ups ((gd t.hops (k - 1)).2 + 1).toNat) t.call = 2) : payF { t with part := p } k = (gd t.hops k).1 := by
  unfold payF
  rw [if_neg (by omega)]
  refine if_neg fun hh => ?_
  have := hh.2
  rw [h] at this
  cases this
theorem made_ver (x : Nm) {i : Nat} (hi : i < (Jan x).hops.length) : 0 <= (gd (Jan x).hops i).2 /\ (gd (Jan x).hops i).2 + 1 < (Jan x).ups.length := by
  have h1 := JiC x.hops
  have h2 := Jiw x.hops ((Jat x.hops).length - 1 - i) i (by show _ = (Jat x.hops).length - 1; have : i < (Jat x.hops).length := hi; omega) (by have : i < (Jat x.hops).length := hi; omega)
  have h3 := (Jdb x.hops _ (Jas _ _ hi)).2
  refine ⟨h3.1, ?_⟩
  show (gd (Jat x.hops) i).2 + 1 < ((upsN ((Jcz x.hops).2 + 2).toNat).length : Nat)
  rw [Jcx]
  omega
theorem ups_size (x : Nm) {j : Nat} (h : j < (Jan x).ups.length) : (gd (Jan x).ups j).size = 8 := by
  have hm := Jas (Jan x).ups j h
  obtain ⟨v, _, hv⟩ := L06.1 (show gd (Jan x).ups j ∈ (List.range _).map updS from hm)
  rw [<- hv]; rfl
set_option maxHeartbeats 16000000 in
theorem pays_ev (x : Nm) (w : Int) (hx : x.ok) (hw : R64 w) : Ev prog 7 [NMP x, I w] (B true) := by
  have d0 := Jhd; have d1 := Jes x hx; have ht := JeV x hx; have hb := Ja1 x
  have hver := fun i hi => made_ver x (i := i) hi
  have hus := fun j hj => ups_size x (j := j) hj
  have hkey : (Jan x).key = keyS 0 := rfl
  have hcs : (Jan x).call.size = 4 := rfl
  generalize Jan x = t at *; have hl := (JaO.1 hb).2.1
  have hhop := fun i hi => Jmo hb (i := i) hi
  have d2 := JeJ t ht hb
  have d3 : ∀ i : Nat, i < t.legs.length -> Ev prog 26 [TPP t, I i] (.tup [I (payF t i), I 0]) := fun i hi => by
    have := Je2 t ht i
    rw [payV, if_pos ⟨hb, by omega⟩, L18] at this
    exact this
  have d4 := fun u => JcT t.key t.part t.call u ht.part
  have hLl := Jbk t
  have hLp : ∀ i, i < t.legs.length -> (gd (Jbs t) i).p = payF t i := fun i hi => by rw [Jcj t hi]; rfl
  have hLq : ∀ i, i < t.legs.length -> (gd (Jbs t) i).q = (gd t.hops (i + 1)).1 := fun i hi => by rw [Jcj t hi]; exact (Jgg hb hi).2.2
  have hP0 : payF t 0 = (gd t.hops 0).1 := if_pos rfl
  have hP : ∀ i, 0 < i -> payF t i = if (gd t.hops (i - 1)).2 + 1 < t.ups.length /\ JaC (evF t.key t.part) (gd t.ups ((gd t.hops (i - 1)).2 + 1).toNat) t.call = 1 then (gd t.hops (i - 1)).1 else (gd t.hops i).1 := fun i hi => if_neg (by omega)
  -- with the register from its beginning
  have e1 : ∀ k, 0 < k -> k < t.legs.length -> ∃ u p q, u = gd t.ups ((gd t.hops (k - 1)).2 + 1).toNat /\ ((gd t.hops (k - 1)).2 + 1).toNat < t.ups.length /\ Ev prog 32 [Str t.key, .agg [I 0, .sl 1 [Str thS, Str u, Str t.call]], I 3, .sl 1 [I 0, I 1]] (.tup [PTP p, I 0]) /\ Ev prog 32 [Str t.key, .agg [I 0, .sl 1 [Str t.call, Str u]], I 2, .sl 1 [I 0, I 1]] (.tup [PTP q, I 0]) /\
      Ev prog 26 [TPP { t with part := p }, I k] (.tup [I (gd t.hops (k - 1)).1, I 0]) /\ Ev prog 26 [TPP { t with part := q }, I k] (.tup [I (gd t.hops k).1, I 0]) := by
    intro k hk hkl
    obtain ⟨v0, v1⟩ := hver (k - 1) (by omega)
    have hj : ((gd t.hops (k - 1)).2 + 1).toNat < t.ups.length := by omega
    have hu8 := hus _ hj
    have hR : ∀ n ∈ ([0, 1] : List Int), R64 n := fun n hn => by
      simp only [L0h, L1X, or_false] at hn
      rcases hn with rfl | rfl <;> exact ⟨by decide, by decide⟩
    obtain ⟨u, hu⟩ : ∃ u, gd t.ups ((gd t.hops (k - 1)).2 + 1).toNat = u := ⟨_, rfl⟩
    rw [hu] at hu8
    have s1 := pa_show (l := [thS, u, t.call]) (by simp) (by simp) (fun s hs => by
      simp only [L0h, L1X, or_false] at hs
      rcases hs with rfl | rfl | rfl
      . decide
      . omega
      . omega)
    have s2 := pa_show (l := [t.call, u]) (by simp) (by simp) (fun s hs => by
      simp only [L0h, L1X, or_false] at hs
      rcases hs with rfl | rfl <;> omega)
    have a1 := pa_ev (l := [thS, u, t.call]) (by simp) (by simp) (fun s hs => by
      simp only [L0h, L1X, or_false] at hs
      rcases hs with rfl | rfl | rfl
      . decide
      . omega
      . omega)
    have a2 := pa_ev (l := [t.call, u]) (by simp) (by simp) (fun s hs => by
      simp only [L0h, L1X, or_false] at hs
      rcases hs with rfl | rfl <;> omega)
    have n1 : thS ≠ u := size_ne (by rw [hu8]; decide)
    have n2 : thS ≠ t.call := size_ne (by rw [hcs]; decide)
    have n3 : u ≠ t.call := size_ne (by omega)
    have f1 : JaC [thS, u] u t.call = 1 := by unfold JaC; rw [if_neg n3, fstF, if_neg n1, if_neg n2, fstF, if_pos rfl]
    have f2 : JaC [t.call, u] u t.call = 2 := by unfold JaC; rw [if_neg n3, fstF, if_neg (Ne.symm n3), if_pos rfl]
    have ok1 := JeD s1 (by decide)
    have ok2 := JeD s2 (by decide)
    have b1 := JfJ (keyS 0) (paR [thS, u, t.call]) 3 [0, 1] (by simp [paR]) (by decide) hR
    have b2 := JfJ (keyS 0) (paR [t.call, u]) 2 [0, 1] (by simp [paR]) (by decide) hR
    have s1 : Jc1 (keyS 0) (paR [thS, u, t.call]) 3 [0, 1] = some (paP [thS, u, t.call]) := s1
    have s2 : Jc1 (keyS 0) (paR [t.call, u]) 2 [0, 1] = some (paP [t.call, u]) := s2
    rw [s1, <- hkey] at b1; rw [s2, <- hkey] at b2; have c1 := Je2 _ (ok_part ht ok1) k; have c2 := Je2 _ (ok_part ht ok2) k
    have t1 := trip_part hb (p := paP [thS, u, t.call]) (by rw [hkey]; exact (Jbn s1).1)
    have t2 := trip_part hb (p := paP [t.call, u]) (by rw [hkey]; exact (Jbn s2).1)
    rw [payV, if_pos ⟨t1, by show _ /\ _ <= (t.legs.length : Int) - 1; omega⟩, L18, pay_known hk v1 (by rw [hu, hkey, a1]; exact f1)] at c1
    rw [payV, if_pos ⟨t2, by show _ /\ _ <= (t.legs.length : Int) - 1; omega⟩, L18, pay_unknown hk (by rw [hu, hkey, a2]; exact f2)] at c2
    exact ⟨u, _, _, hu.symm, hj, b1, b2, c1, c2⟩
  have hsw := JkG (evF t.key t.part); have hin := Jjp (evF t.key t.part)
  have hlt : t.legs.length <= 11 := by omega
  clear hb ht hkey hcs hus; generalize Jbs t = L at *; generalize payF t = PF at *; generalize JaC (evF t.key t.part) = FF at *
  obtain ⟨hops, legs, cks, tfs, offs, key, ⟨⟨pc, pn, pr, ps⟩, pl⟩, call, ups⟩ := t
  simp only at *
  refine EV func7 ?_
  simp -implicitDefEqProofs (disch := omega) only [go_sem, ntmps7]
  refine Jaa d0 ?_
  simp -implicitDefEqProofs (disch := omega) only [go_sem]
  refine Jaa d1 ?_
  simp -implicitDefEqProofs (disch := omega) only [go_sem]
  refine Jaa d2 ?_
  simp -implicitDefEqProofs (disch := omega) only [go_sem, hLl]
  refine Jag (fun n E σ => ∃ i : Nat, i + n = legs.length /\ E 1 = I w /\ E 5 = B true /\ E 6 = .ptr 16777312 13 0 0 /\ E 7 = BLS L /\ E 9 = I i /\ σ 16777312 = some ⟨52, 13, [.agg [HPS hops, LGS legs, CKS cks, TFS tfs, SL offs, Str key, I pc, I pn, Str pr, Str ps, ITS pl, Str call, SLs ups]]⟩) legs.length ⟨0, by omega, ?_⟩ ?_
  . simp -implicitDefEqProofs (disch := omega) only [go_sem]; try rfl
  rintro n E σ ⟨i, hi, e1', e5, e6, e7, e9, m6⟩
  simp -implicitDefEqProofs (disch := omega) only [go_sem, e1', e5, e6, e7, e9, m6, hLl]
  refine Jab (fun hc => ?_) (fun hc => ?_)
  . have hil : i < legs.length := by omega
    have hih : i + 1 < hops.length := by omega
    have hih0 : i < hops.length := by omega
    have hii : ((i : Int) + 1).toNat = i + 1 := by omega
    have hiL : i < L.length := by omega
    have q1 := hLp i hil; have q2 := hLq i hil; have c1 := d3 i hil; simp -implicitDefEqProofs (disch := omega) only [go_sem, e1', e5, e6, e7, e9, m6, hLl]
    refine Jaa c1 ?_
    simp -implicitDefEqProofs (disch := omega) only [go_sem, e1', e5, e6, e7, e9, m6, hLl, hii, q1, q2]
    refine Jab (fun h0 => ?_) (fun h0 => ?_)
    . obtain rfl : i = 0 := by omega
      simp -implicitDefEqProofs (disch := omega) only [go_sem, e1', e5, e6, e7, e9, m6, hP0]
      refine Jae (legs.length - (0 + 1)) (by omega) ⟨1, by omega, ?_⟩
      simp -implicitDefEqProofs (disch := omega) only [go_sem, e1', e5, e6, e7, e9, m6]; try rfl
    . have hj : ((i : Int) - 1).toNat = i - 1 := by omega
      have hjl : i - 1 < hops.length := by omega
      obtain ⟨v0, v1⟩ := hver (i - 1) hjl
      have hp := hP i (by omega)
      have c2 := d4 (gd ups ((gd hops (i - 1)).2 + 1).toNat); have hw2 := hsw (gd ups ((gd hops (i - 1)).2 + 1).toNat) call; have hin2 := hin (gd ups ((gd hops (i - 1)).2 + 1).toNat) call
      have hvl : ((gd hops (i - 1)).2 + 1).toNat < ups.length := by omega
      have hmin : min ((gd hops (i - 1)).2 + 1) ((ups.length : Int) - 1) = (gd hops (i - 1)).2 + 1 := by omega
      simp -implicitDefEqProofs (disch := omega) only [go_sem, e1', e5, e6, e7, e9, m6, hj]
      refine Jab (fun h1 => ?_) (fun h1 => absurd v1 h1)
      simp -implicitDefEqProofs (disch := omega) only [go_sem, e1', e5, e6, e7, e9, m6, hj, hmin]
      refine Jaa c2 ?_
      rw [hw2]; generalize FF (gd ups ((gd hops (i - 1)).2 + 1).toNat) call = z at *
      by_cases hz : z = 1
      . rw [if_pos ⟨v1, hz⟩] at hp
        have hz2 : (3 - z) % 3 = 2 := by omega
        simp -implicitDefEqProofs (disch := omega) only [go_sem, e1', e5, e6, e7, e9, m6, hj, hp, hz2]
        refine Jae (legs.length - (i + 1)) (by omega) ⟨i + 1, by omega, ?_⟩
        simp -implicitDefEqProofs (disch := omega) only [go_sem, e1', e5, e6, e7, e9, m6]; try rfl
      . rw [if_neg (fun h => hz h.2)] at hp
        have hz2 : ((3 - z) % 3 == 2) = false := by rw [beq_eq_false_iff_ne]; omega
        have hz3 : ¬ (3 - z) % 3 = 2 := by omega
        simp -implicitDefEqProofs (disch := omega) only [go_sem, e1', e5, e6, e7, e9, m6, hj, hp, hz2, hz3]
        refine Jae (legs.length - (i + 1)) (by omega) ⟨i + 1, by omega, ?_⟩
        simp -implicitDefEqProofs (disch := omega) only [go_sem, e1', e5, e6, e7, e9, m6]; try rfl
  obtain rfl : i = legs.length := by omega
  simp -implicitDefEqProofs (disch := omega) only [go_sem, e1', e5, e6, e7, e9, m6]
  refine Jab (fun h2 => ?_) (fun h2 => ?_)
  . simp -implicitDefEqProofs (disch := omega) only [go_sem, e1', e5, e6, e7, e9, m6, results7]
  have c3 := Jbz w ((legs.length : Int) - 1) hw (by omega)
  have p3 := Jah (c := w) (n := (legs.length : Int) - 1) (by omega)
  obtain ⟨k, hk⟩ : ∃ k : Nat, 1 + Jad w ((legs.length : Int) - 1) = k := ⟨(1 + Jad w ((legs.length : Int) - 1)).toNat, by omega⟩
  obtain ⟨u, p, q, hu, hul, b1, b2, b3, b4⟩ := e1 k (by omega) (by omega)
  have hkj : ((k : Int) - 1).toNat = k - 1 := by omega
  have hkl : k - 1 < hops.length := by omega
  have hkl2 : k < hops.length := by omega
  obtain ⟨w0, w1⟩ := hver (k - 1) hkl
  clear e1 d2 d3 d4 hP hLp hLq hver hsw hin
  obtain ⟨⟨ac, an, ar, as_⟩, al⟩ := p
  obtain ⟨⟨bc, bn, br, bs⟩, bl⟩ := q
  simp -implicitDefEqProofs (disch := omega) only [go_sem, e1', e5, e6, e7, e9, m6]
  refine Jaa c3 ?_
  simp -implicitDefEqProofs (disch := omega) only [go_sem, e1', e5, e6, e7, e9, m6, hk, hkj, <- hu]
  refine Jam rfl ?_
  refine JaS [16780192, 16780432] ?_
  simp -implicitDefEqProofs (disch := omega) only [go_sem, e1', e5, e6, e7, e9, m6, hk, hkj, <- hu]
  refine Jaa b1 ?_
  simp -implicitDefEqProofs (disch := omega) only [go_sem, e1', e5, e6, e7, e9, m6, hk, hkj, <- hu]
  refine Jam rfl ?_
  refine JaS [16780336, 16780560] ?_
  simp -implicitDefEqProofs (disch := omega) only [go_sem, e1', e5, e6, e7, e9, m6, hk, hkj, <- hu]
  refine Jaa b2 ?_
  simp -implicitDefEqProofs (disch := omega) only [go_sem, e1', e5, e6, e7, e9, m6, hk, hkj, <- hu, false_and, and_self]
  refine Jaa b3 ?_
  simp -implicitDefEqProofs (disch := omega) only [go_sem, e1', e5, e6, e7, e9, m6, hk, hkj, <- hu, false_and, and_self]
  refine Jaa b4 ?_
  simp -implicitDefEqProofs (disch := omega) only [go_sem, e1', e5, e6, e7, e9, m6, hk, hkj, false_and, and_self, results7]; try simp
theorem legPays_lifted (os : Os) (started : os.Started) (H : Type) (enc : TypeId × Value -> H) :
    ReturnsInHanded {} Tryz.checked os 7 .any (fun w args => (Rows.legPaysSpec.pre enc prog Tryz.f7 [] false w args /\ laidMetH prog Jdt w) /\ sizedMet enc prog Tryz.f7 (OpenSpec.ofChange Rows.legPaysSpec) false w args)
      (Rows.legPaysSpec.post enc prog Tryz.f7 false true false false) :=
  JgO (C := Tryz.checked) (tb := 4) (ps := [ON, OI]) (X := fun w _ => laidMetH prog Jdt w) (fun _ _ _ hh h => h.of_heap hh) own3 started (by kernel_rfl) func7
    (ChangeSpec.witness_shaped (enc := enc) (C := Tryz.checked) (os := os) (X := fun w _ => laidMetH prog Jdt w) false (World.doorLaid prog 14 os) #[.agg #[.slice none 0 0, .slice none 0 0, .slice none 0 0, .slice none 0 0, .slice none 0 0, .slice none 0 0, .slice none 0 0], .int .i64 0] 8 rfl (World.shaped_of_RefB (by kernel_rfl) (by kernel_rfl)) (by kernel_rfl) (by kernel_rfl) (by kernel_rfl) (JeN os _))
    JeU (by kernel_rfl) (by kernel_rfl) (by kernel_rfl) rfl (JCd fun _ _ => rfl)
    (fun w => ⟨JjR, Jdh (by kernel_rfl), trivial⟩)
    (JwE fun a0 a1 h0 h1 => by
      obtain ⟨x0, hx0, rfl⟩ := h0; obtain ⟨x1, hx1, rfl⟩ := h1
      exact pays_ev x0 x1 hx0 hx1)
    (fun _ _ h => gok h)
theorem legPays_row : Rows.LegPaysSaid :=
  OpenClaim.holds_of_wide 7 Tryz.f7 rfl rfl rfl rfl rfl rfl rfl ⟨rfl, rfl, rfl, rfl, rfl⟩ rfl rfl rfl rfl rfl (by kernel_rfl) func7 (by kernel_rfl)
    (of_decide_eq_true (by kernel_rfl)) (by unfold Func.isWrapper; first | (rw [if_pos (by decide +kernel)]; kernel_rfl) | (rw [if_neg (by decide +kernel)]; exact ⟨rfl, rfl⟩))
    (fun os started H enc _ => legPays_lifted os started H enc)
theorem legPays_holds : Rows.LegPaysCardSaid :=
  Claim7.holds_tied_plain_at .later [] [.data] true (true, "43ff5d6d438086e88ed6ccc25955440aba0cd482b19469407fb38ba16744b6d5") false
    legPays_row (fun _ h => by cases h) (by kernel_rfl) (fun _ h => by cases h) legPays_row_tie rfl ⟨rfl, rfl⟩ (by kernel_rfl) rfl
    (fun f fn hf hfn => by
      obtain rfl : f = 7 := Option.some.inj ((show prog.funcNamed "dialtone/dialtonelaw38.LegPays" = some 7 by kernel_rfl).symm.trans hf) |>.symm
      obtain rfl : fn = Tryz.f7 := (Option.some.inj (func7.symm.trans hfn)).symm
      exact ⟨by kernel_rfl, fun j t ht => by
          rw [Tryz.params7] at ht
          rcases j with _ | j
          . obtain rfl : t = 28 := by simpa using ht.symm
            exact (show prog.wantsStandIn 28 = false by kernel_rfl)
          rcases j with _ | j
          . obtain rfl : t = 3 := by simpa using ht.symm
            exact (show prog.wantsStandIn 3 = false by kernel_rfl)
          simp at ht⟩)
    (by kernel_rfl)
#print axioms legPays_holds
end Go.Proofs.YtnpbhgeffapojaaGreatDoor

/- Chapter 38, LegAmounts: if a billed spell is divided, its amounts add up; what is paid for a leg depends on the tariff of its payee alone. Conditions: the package variable digest.round reads as the program's text lays it (tied). -/
import Derived.Test.YtnpbhgeffapojaaGreatDoorKI
set_option linter.all false
set_option maxRecDepth 100000
namespace Go.Proofs.YtnpbhgeffapojaaGreatDoor
open Go.Proofs.Tryz
open Go.Vai Go Go.Proofs
@[go_sem] theorem set_TF (l : List Tf) (n : Nat) (c : Tf) : (l.map TF).set n (TF c) = (l.set n c).map TF := by rw [List.map_set]
theorem amt_add (x : Tf) (z a b c : Int) : amtF x z a b + amtF x z b c = amtF x z a c := by unfold amtF; omega
theorem amt_in {x : Tf} (h : JbG x = true) (z : Int) {a b : Int} (ha : 0 <= a) (hab : a <= b) (hb : b <= 10000000) : 0 <= amtF x z a b /\ amtF x z a b <= 10000000000000 := by
  have h1 := JiY x z (a := 0) (b := a) (c := b) ha hab
  have h2 := Jdp h z a b hab; have h3 := Jdp h z 0 a ha; unfold amtF
  omega
theorem gd_set' {T : Type} [Inhabited T] (l : List T) (i n : Nat) (x : T) (h : i < l.length) (hn : n ≠ i) : gd (l.set i x) n = gd l n := by rw [Jjx _ _ _ _ h, if_neg hn]
theorem trip_tfs {t : Tp} (h : Jc5 t = true) {j : Nat} (hj : j < 8) {x : Tf} (hx : JbG x = true) : Jc5 { t with tfs := t.tfs.set j x } = true := by
  rw [JaO] at h ⊢
  obtain ⟨a, ⟨b1, b2, b3, b4, b5, b6⟩, c, d, e⟩ := h
  refine ⟨a, ⟨b1, b2, b3, by simpa using b4, b5, b6⟩, c, ?_, e⟩
  rw [L0b] at d ⊢
  intro y hy
  rcases L1Z hy with hy | rfl
  . exact d y hy
  . exact hx
theorem ok_tfs {t : Tp} (h : t.ok) {j : Nat} {x : Tf} (hx : JbG x = true) : ({ t with tfs := t.tfs.set j x } : Tp).ok :=
  ⟨h.part, h.rds, fun y hy => by
    rcases L1Z hy with hy | rfl
    . exact h.good y hy
    . exact hx, h.hops, h.legs, h.cks, by simpa using h.tfs, h.offs, h.ups⟩
set_option maxHeartbeats 16000000 in
theorem amounts_ev (x : Nm) (cut base : Int) (rates : List Q4) (who : Int) (hx : x.ok) (hc : R64 cut) (hb' : R64 base) (hrl : rates.length <= 9223372036854775807) (hr : ∀ q ∈ rates, Q4ok q) (hw : R64 who) : Ev prog 8 [NMP x, I cut, I base, QL rates, I who] (B true) := by
  have d0 := Jhd; have d1 := Jes x hx; have ht := JeV x hx; have hb := Ja1 x; generalize Jan x = t at *; have hl := (JaO.1 hb).2.1; have d2 := JeJ t ht hb
  have d3 := Jbz who 8 hw (by omega)
  have p3 := Jah (c := who) (n := 8) (by omega)
  have d4 := Jkh base rates hb' hr hrl; have hgd := Jmn base rates
  obtain ⟨W, hW⟩ : ∃ W : Nat, Jad who 8 = W := ⟨(Jad who 8).toNat, by omega⟩
  have hb2 := trip_tfs hb (j := W) (by omega) hgd
  have d5 := JeJ _ (ok_tfs ht (j := W) hgd) hb2
  have hLl := Jbk t
  have hMl := Jbk { t with tfs := t.tfs.set W (tfQ base rates) }
  have hZ : ∀ n ∈ t.offs, Jdr n = true := L0b.1 (JaO.1 hb).2.2.2.2.1
  have key : ∀ i, i < t.legs.length -> ∃ p q f u a a' : Int, gd (Jbs t) i = ⟨p, q, f, u, a⟩ /\ gd (Jbs { t with tfs := t.tfs.set W (tfQ base rates) }) i = ⟨p, q, f, u, a'⟩ /\ (0 <= q /\ q <= 7) /\ (0 <= f /\ f <= u /\ u <= 10000000) /\ (q ≠ W -> a' = a) /\ a = amtF (gd t.tfs q.toNat) (gd t.offs q.toNat) f u := by
    intro i hi
    have hb3 := JbN.1 (Jgg hb hi).1; have hs := JnS (evF t.key t.part) (gd t.cks (gd t.legs i).f.toNat) (gd t.cks (gd t.legs i).t.toNat) (gd t.legs i)
    rw [Jcj t hi, Jcj { t with tfs := t.tfs.set W (tfQ base rates) } hi]
    refine ⟨_, _, _, _, _, _, rfl, rfl, ⟨hb3.1.2.1.1, hb3.1.2.1.2⟩, Jc2.1 hs.1, fun hq => ?_, rfl⟩
    show amtF (gd (t.tfs.set W (tfQ base rates)) _) _ _ _ = _
    have hq' : (gd t.legs i).t ≠ W := hq
    have hq2 := hb3.1.2.1
    rw [gd_set' t.tfs W (gd t.legs i).t.toNat (tfQ base rates) (by omega) (by omega)]
    rfl
  have hgood := ht.good
  have hlt : t.legs.length <= 11 := by omega
  clear hb ht hb2
  generalize Jbs { t with tfs := t.tfs.set W (tfQ base rates) } = M at *
  generalize Jbs t = L at *; generalize hTQ : tfQ base rates = TQ at *
  obtain ⟨hops, legs, cks, tfs, offs, ky, ⟨⟨pc, pn, pr, ps⟩, pl⟩, call, ups⟩ := t
  simp only at *
  have htl : tfs.length = 8 := hl.2.2.2.1
  have hq8 : tfs.take 8 = tfs := L09 (by omega)
  have hq8s : (tfs.set W TQ).take 8 = tfs.set W TQ := L09 (by simp; omega)
  obtain ⟨tql, tqb⟩ := TQ
  refine EW [10] func8 ?_
  simp -implicitDefEqProofs (disch := omega) only [go_sem, ntmps8]
  refine Jaa d0 ?_
  simp -implicitDefEqProofs (disch := omega) only [go_sem]
  refine Jaa d1 ?_
  simp -implicitDefEqProofs (disch := omega) only [go_sem]
  refine Jaa d2 ?_
  simp -implicitDefEqProofs (disch := omega) only [go_sem, htl, hq8, false_and, and_self]
  refine Jaa d3 ?_
  simp -implicitDefEqProofs (disch := omega) only [go_sem, hW, htl, hq8, L18, false_and, and_self]
  refine Jaa d4 ?_ (h4 := by first | exact .inl rfl | exact .inr (Jxj _))
  simp -implicitDefEqProofs (disch := omega) only [go_sem, hW, htl, hq8, L18, false_and, and_self]
  refine JaK Plain.mono [18874944] ?_
  simp -implicitDefEqProofs (disch := omega) only [go_sem, hW, htl, hq8, hq8s, L18, L05, L20, false_and, and_self]
  refine Jaa d5 ?_
  simp -implicitDefEqProofs (disch := omega) only [go_sem, hLl, hMl]
  refine Jag (fun n E σ => ∃ i : Nat, i + n = legs.length /\ E 1 = I cut /\ E 4 = I W /\ E 11 = B true /\ E 12 = .ptr 18874560 13 0 0 /\ E 13 = BLS L /\ E 16 = BLS M /\ E 18 = I i /\ σ 18874560 = some ⟨52, 13, [.agg [HPS hops, LGS legs, CKS cks, TFS tfs, SL offs, Str ky, I pc, I pn, Str pr, Str ps, ITS pl, Str call, SLs ups]]⟩) legs.length ⟨0, by omega, ?_⟩ ?_
  . simp -implicitDefEqProofs (disch := omega) only [go_sem]; try rfl
  rintro n E σ ⟨i, hi, e1, e4, e11, e12, e13, e16, e18, m12⟩
  simp -implicitDefEqProofs (disch := omega) only [go_sem, e1, e4, e11, e12, e13, e16, e18, m12, hLl]
  refine Jab (fun hcc => ?_) (fun hcc => ?_)
  rotate_left
  . simp -implicitDefEqProofs (disch := omega) only [go_sem, e1, e4, e11, e12, e13, e16, e18, m12, results8]
  have hil : i < legs.length := by omega
  have hiL : i < L.length := by omega
  have hiM : i < M.length := by omega
  obtain ⟨p, q, f, u, a, a', g1, g2, g3, g4, g5, g6⟩ := key i hil
  have c1 := Jbz cut (u - f + 1) hc (by omega)
  have p1 := Jah (c := cut) (n := u - f + 1) (by omega)
  have hqt : q.toNat < tfs.length := by omega
  have hqo : q.toNat < offs.length := by omega
  have gT := hgood _ (Jas tfs q.toNat hqt); have gZ := hZ _ (Jas offs q.toNat hqo)
  have c2 := Jgn (gd tfs q.toNat) (gd offs q.toNat) f (f + Jad cut (u - f + 1)) gT gZ (Jc2.2 (by omega))
  have c3 := Jgn (gd tfs q.toNat) (gd offs q.toNat) (f + Jad cut (u - f + 1)) u gT gZ (Jc2.2 (by omega))
  have hadd := amt_add (gd tfs q.toNat) (gd offs q.toNat) f (f + Jad cut (u - f + 1)) u
  have i1 := amt_in gT (gd offs q.toNat) (a := f) (b := f + Jad cut (u - f + 1)) (by omega) (by omega) (by omega)
  have i2 := amt_in gT (gd offs q.toNat) (a := f + Jad cut (u - f + 1)) (b := u) (by omega) (by omega) (by omega)
  have i3 := amt_in gT (gd offs q.toNat) (a := f) (b := u) (by omega) (by omega) (by omega)
  rw [<- g6] at hadd i3; clear g6 gT gZ key hgood hZ; generalize amtF (gd tfs q.toNat) (gd offs q.toNat) f (f + Jad cut (u - f + 1)) = x1 at *; generalize amtF (gd tfs q.toNat) (gd offs q.toNat) (f + Jad cut (u - f + 1)) u = x2 at *; generalize Jad cut (u - f + 1) = w at *; simp -implicitDefEqProofs (disch := omega) only [go_sem, e1, e4, e11, e12, e13, e16, e18, m12, g1, g2]
  refine Jaa c1 ?_
  simp -implicitDefEqProofs (disch := omega) only [go_sem, e1, e4, e11, e12, e13, e16, e18, m12, g1, g2]
  refine Jaa c2 ?_
  simp -implicitDefEqProofs (disch := omega) only [go_sem, e1, e4, e11, e12, e13, e16, e18, m12, g1, g2]
  refine Jaa c3 ?_
  simp -implicitDefEqProofs (disch := omega) only [go_sem, e1, e4, e11, e12, e13, e16, e18, m12, g1, g2, hadd, beq_self_eq_true, bne_self_eq_false, List.append_eq, L0w, L1Q]
  refine Jab (fun hqw => ?_) (fun hqw => ?_)
  . have g5 := g5 hqw; subst g5; simp -implicitDefEqProofs (disch := omega) only [go_sem, e1, e4, e11, e12, e13, e16, e18, m12, g1, g2, hadd, beq_self_eq_true, bne_self_eq_false]
    refine Jab (fun h => absurd h (by omega)) (fun h => ?_)
    simp -implicitDefEqProofs (disch := omega) only [go_sem, e1, e4, e11, e12, e13, e16, e18, m12, g1, g2, hadd, beq_self_eq_true, bne_self_eq_false]
    refine Jae (legs.length - (i + 1)) (by omega) ⟨i + 1, by omega, ?_⟩
    simp -implicitDefEqProofs (disch := omega) only [go_sem, e1, e4, e11, e12, e13, e16, e18, m12]; try rfl
  . simp -implicitDefEqProofs (disch := omega) only [go_sem, e1, e4, e11, e12, e13, e16, e18, m12, g1, g2, hadd, beq_self_eq_true, bne_self_eq_false]
    refine Jab (fun h => absurd h (by omega)) (fun h => ?_)
    simp -implicitDefEqProofs (disch := omega) only [go_sem, e1, e4, e11, e12, e13, e16, e18, m12, g1, g2, hadd, beq_self_eq_true, bne_self_eq_false]
    refine Jae (legs.length - (i + 1)) (by omega) ⟨i + 1, by omega, ?_⟩
    simp -implicitDefEqProofs (disch := omega) only [go_sem, e1, e4, e11, e12, e13, e16, e18, m12]; try rfl
theorem legAmounts_lifted (os : Os) (started : os.Started) (H : Type) (enc : TypeId × Value -> H) :
    ReturnsInHanded {} Tryz.checked os 8 .any (fun w args => (Rows.legAmountsSpec.pre enc prog Tryz.f8 [] false w args /\ laidMetH prog Jdt w) /\ sizedMet enc prog Tryz.f8 (OpenSpec.ofChange Rows.legAmountsSpec) false w args)
      (Rows.legAmountsSpec.post enc prog Tryz.f8 false true false false) :=
  JgO (C := Tryz.checked) (tb := 4) (ps := [ON, OI, OI, OQ, OI]) (X := fun w _ => laidMetH prog Jdt w) (fun _ _ _ hh h => h.of_heap hh) own3 started (by kernel_rfl) func8
    (ChangeSpec.witness_shaped (enc := enc) (C := Tryz.checked) (os := os) (X := fun w _ => laidMetH prog Jdt w) false (World.doorLaid prog 14 os) #[.agg #[.slice none 0 0, .slice none 0 0, .slice none 0 0, .slice none 0 0, .slice none 0 0, .slice none 0 0, .slice none 0 0], .int .i64 0, .int .i64 0, .slice none 0 0, .int .i64 0] 8 rfl (World.shaped_of_RefB (by kernel_rfl) (by kernel_rfl)) (by kernel_rfl) (by kernel_rfl) (by kernel_rfl) (JeN os _))
    JeU (by kernel_rfl) (by kernel_rfl) (by kernel_rfl) rfl (JCe fun _ _ _ _ _ => rfl)
    (fun w => ⟨JjR, Jdh (by kernel_rfl), Jdh (by kernel_rfl), Jpg, Jdh (by kernel_rfl), trivial⟩)
    (JwF fun a0 a1 a2 a3 a4 h0 h1 h2 h3 h4 => by
      obtain ⟨x0, hx0, rfl⟩ := h0; obtain ⟨x1, hx1, rfl⟩ := h1; obtain ⟨x2, hx2, rfl⟩ := h2; obtain ⟨x3, hx3, hr3, rfl⟩ := h3; obtain ⟨x4, hx4, rfl⟩ := h4
      exact amounts_ev x0 x1 x2 x3 x4 hx0 hx1 hx2 hx3 hr3 hx4)
    (fun _ _ h => gok h)
theorem legAmounts_row : Rows.LegAmountsSaid :=
  OpenClaim.holds_of_wide 8 Tryz.f8 rfl rfl rfl rfl rfl rfl rfl ⟨rfl, rfl, rfl, rfl, rfl⟩ rfl rfl rfl rfl rfl (by kernel_rfl) func8 (by kernel_rfl)
    (of_decide_eq_true (by kernel_rfl)) (by unfold Func.isWrapper; first | (rw [if_pos (by decide +kernel)]; kernel_rfl) | (rw [if_neg (by decide +kernel)]; exact ⟨rfl, rfl⟩))
    (fun os started H enc _ => legAmounts_lifted os started H enc)
theorem legAmounts_holds : Rows.LegAmountsCardSaid :=
  Claim7.holds_tied_plain_at .later [] [.data] true (true, "43ff5d6d438086e88ed6ccc25955440aba0cd482b19469407fb38ba16744b6d5") false
    legAmounts_row (fun _ h => by cases h) (by kernel_rfl) (fun _ h => by cases h) legAmounts_row_tie rfl ⟨rfl, rfl⟩ (by kernel_rfl) rfl
    (fun f fn hf hfn => by
      obtain rfl : f = 8 := Option.some.inj ((show prog.funcNamed "dialtone/dialtonelaw38.LegAmounts" = some 8 by kernel_rfl).symm.trans hf) |>.symm
      obtain rfl : fn = Tryz.f8 := (Option.some.inj (func8.symm.trans hfn)).symm
      exact ⟨by kernel_rfl, fun j t ht => by
          rw [Tryz.params8] at ht
          rcases j with _ | j
          . obtain rfl : t = 28 := by simpa using ht.symm
            exact (show prog.wantsStandIn 28 = false by kernel_rfl)
          rcases j with _ | j
          . obtain rfl : t = 3 := by simpa using ht.symm
            exact (show prog.wantsStandIn 3 = false by kernel_rfl)
          rcases j with _ | j
          . obtain rfl : t = 3 := by simpa using ht.symm
            exact (show prog.wantsStandIn 3 = false by kernel_rfl)
          rcases j with _ | j
          . obtain rfl : t = 26 := by simpa using ht.symm
            exact (show prog.wantsStandIn 26 = false by kernel_rfl)
          rcases j with _ | j
          . obtain rfl : t = 3 := by simpa using ht.symm
            exact (show prog.wantsStandIn 3 = false by kernel_rfl)
          simp at ht⟩)
    (by kernel_rfl)
#print axioms legAmounts_holds
end Go.Proofs.YtnpbhgeffapojaaGreatDoor

/- Chapter 40, AuditTrips: the charges of a trip come to what leg.Bills says: each carrier gains what it is paid for legs that lead to it, less what it pays for those of others. Conditions: the package variable digest.round reads as the program's text lays it (tied). -/
import Derived.Test.YtlecbpkidomjbaaGreatDoorKJ
set_option linter.all false
set_option maxRecDepth 100000
namespace Go.Proofs.YtlecbpkidomjbaaGreatDoor.Au
open Go.Proofs.Tryz
open Go.Vai Go Go.Proofs Go.Proofs.YtlecbpkidomjbaaGreatDoor
theorem pick40_ev (c n : Int) (b : R64 c) (g : 0 < n) : Ev prog 8 [I c, I n] (I (Jaf c n)) := by
 obtain ⟨d, f⟩ := b
 refine EV func8 ?_
 simp -implicitDefEqProofs (disch := omega) only [go_sem, ntmps8]
 refine Jab (λ h => ?_) (λ h => ?_) <;> simp -implicitDefEqProofs (disch := omega) only [go_sem, results8]
 . rw [show (0 - (c+1)) = -(c+1) from by omega]; simp [Jaf, h]
 . simp [Jaf, h]
abbrev txC : ByteArray := ⟨#[99, 97, 108, 108]⟩
set_option maxHeartbeats 8000000 in
theorem auditTrips_ev (x : Nm) (cu : Int) (hx : x.ok) (hc : R64 cu) : Ev prog 4 [NMP x, I cu] (B true) := by
 have d0 := Jvo; have d1 := Jlq x hx; have ht := Jp9 x hx; have hb := Jbm x; have hch := Jlr x
 have ham := λ b hb => JmD x (b := b) hb
 generalize JaE x = t at *
 have d3 := pick40_ev cu 64 hc (by omega)
 have p3 := Jai (c := cu) (n := 64) (by omega)
 generalize Jaf cu 64 = h at *
 have d4 := Jnl t ht h txC hb (decide_eq_true (by omega)) (by decide)
 rw [if_pos hch] at d4; have d5 := Jjw t ht hb
 have hbi := λ b hbb => JoQ hb (b := b) hbb
 have hLt := Jb7 t
 have hq : ∀ i, i < t.legs.length -> (gd (Jbj t) i).q = (gd t.legs i).t := λ i hi => by rw [Jjv t hi]; rfl
 have hll : t.legs.length <= 11 := by have := (JaO.1 hb).2.1; omega
 have hsum := Js2 h txC (Jbj t) (λ b hb' => (hbi b hb').1)
 have hcok := JxB (h := h) (t := txC) (l := Jbj t) (by omega) (by omega) (by decide) hbi hch
 have hbok : ∀ c ∈ (Jbj t).map bch, c.ok := by
  intro c hc
  obtain ⟨b, hb', rfl⟩ := L04.1 hc
  have h1 := hbi b hb'; have h2 := ham b hb'
  exact ⟨h1.1.1, h1.1.2, h1.2.1, h1.2.2, h2.1, h2.2, L1K 0, (by decide : (0 : Int) <= 63), (by decide : ByteArray.empty.size <= 100)⟩
 clear hch ham; generalize hLe : Jbj t = L at *
 have hcl : (chgF h txC L).length <= 11 := by have := Jc8 h txC L; omega
 have d6 := JkI (chgF h txC L) (by omega) hcok
 have hex : Jj5 exK (chgF h txC L) = true := by
  have : exK.size = 32 := by unfold exK; rw [strOfNums_size]; rfl
  simp only [Jj5, this, decide_true, L0h, hcok]
 have d7 := Jkq exK (chgF h txC L) (by omega) hex
 have hse := Jkr exK (JhH hcok).2 (by omega)
 have hsn : ∀ v, v < L.length -> chgF h txC (L.take (v + 1)) = chgF h txC (L.take v) ++ chg1 h txC (gd L v) := λ v hv => Jl8 h txC L hv
 obtain ⟨Wf, w0, wl, hst, htake⟩ : ∃ Wf : Nat -> List Int, Wf 0 = List.replicate 8 0 /\ Wf L.length = JaD (L.map bch) /\ (∀ v, v < L.length -> Wf (v + 1) = Jdn (Wf v) (bch (gd L v))) /\ ∀ v, v <= L.length -> (Wf v).length = 8 /\ ∀ j, -(2000000000 * (v : Int)) <= gd (Wf v) j /\ gd (Wf v) j <= 2000000000 * (v : Int) :=
  ⟨λ v => JaD ((L.map bch).take v), rfl, congrArg JaD (L03 (by simp)), λ v hv => by
   show JaD ((L.map bch).take (v + 1)) = _
   rw [<- JfU, L0D, L06, JaA L v hv]; rfl, λ v hv => JbR _ hbok v (by simpa using hv)⟩
 rw [hsum] at d6 hse; have hw8 := (htake L.length (L08 _)).1; rw [wl] at hw8; generalize hS : JcO exK (chgF h txC L) = S at *; obtain ⟨S1, S2⟩ := S
 simp only at hse
 subst hse; clear hb hcok ht hS hsum hex hLe
 obtain ⟨hops, legs, cks, tfs, offs, key, ⟨⟨pc, pn, pr, ps⟩, pl⟩, call, ups⟩ := t
 simp only at *
 generalize hk : exK = K at *
 refine EW [23] func4 ?_
 simp -implicitDefEqProofs (disch := omega) only [go_sem, ntmps4]
 refine Jaa d0 ?_
 simp -implicitDefEqProofs (disch := omega) only [go_sem]
 refine Jaa d1 ?_
 simp -implicitDefEqProofs (disch := omega) only [go_sem]
 refine Jaa d3 ?_
 simp -implicitDefEqProofs (disch := omega) only [go_sem]
 refine Jaa d4 ?_
 simp -implicitDefEqProofs (disch := omega) only [go_sem]
 refine Jaa d5 ?_
 simp -implicitDefEqProofs (disch := omega) only [go_sem, hLt]
 refine Jag (λ n E σ => ∃ v : Nat, v + n = L.length /\ E 6 = .ptr 10485856 13 0 0 /\ E 8 = CL (chgF h txC L) /\ E 10 = BLS L /\ E 12 = .own 10486592 1 0 8 /\ E 13 = I (chgF h txC (L.take v)).length /\ E 14 = I v /\ σ 10486592 = some ⟨3, 1, (Wf v).map I⟩ /\
  σ 10485856 = some ⟨41, 13, [.agg [HPS hops, LGS legs, CKS cks, TFS tfs, SL offs, Str key, I pc, I pn, Str pr, Str ps, ITS pl, Str call, SLs ups]]⟩) L.length ⟨0, by omega, ?_⟩ ?_
 . rw [w0]; simp -implicitDefEqProofs (disch := omega) only [go_sem, chgF]
   try ((repeat' apply And.intro) <;> rfl)
 rintro n E σ ⟨v, hv, e6, e8, e10, e12, e13, e14, m52, m6⟩
 simp -implicitDefEqProofs (disch := omega) only [go_sem, e6, e8, e10, e12, e13, e14, m52, m6]
 refine Jab (λ hc => ?_) (λ hc => ?_)
 . have hvl : v < L.length := by omega
   obtain ⟨⟨p1, p2⟩, q1, q2⟩ := hbi _ (Jan L v hvl)
   have hqv := hq v (by omega)
   have hs1 := hst v hvl; have hn1 := hsn v hvl
   obtain ⟨t8, tb⟩ := htake v (by omega)
   have hbk := hbok _ (List.mem_map_of_mem (f := bch) (Jan L v hvl))
   have tb2 := Jjb tb hbk
   have hol : (chgF h txC (L.take v)).length <= 11 := by
    have := Jc8 h txC (L.take v)
    rw [L01] at this; omega
   clear hbi hq hst hsn htake hbok d0 d1 d3 d4 d5 d6 d7; generalize Wf v = Q at *; generalize chgF h txC (L.take v) = C at *; generalize hg : gd L v = b at *; obtain ⟨p, q, f, u, a⟩ := b; obtain ⟨_, _, _, _, a1, a2, _⟩ := hbk; simp only [bch] at a1 a2 p1 p2 q1 q2 hqv; have b1 := tb p.toNat; have b2 := tb2 q.toNat
   have hpl : (payS Q (bch ⟨p, q, f, u, a⟩)).length = 8 := by rw [JeB]; exact t8
   have hpay : Q.set p.toNat (gd Q p.toNat - a) = payS Q (bch ⟨p, q, f, u, a⟩) := rfl
   have hstep : (payS Q (bch ⟨p, q, f, u, a⟩)).set q.toNat (gd (payS Q (bch ⟨p, q, f, u, a⟩)) q.toNat + a) = Jdn Q (bch ⟨p, q, f, u, a⟩) := rfl
   generalize payS Q (bch ⟨p, q, f, u, a⟩) = P at *; generalize Jdn Q (bch ⟨p, q, f, u, a⟩) = Q' at *; simp -implicitDefEqProofs (disch := omega) only [go_sem, e6, e8, e10, e12, e13, e14, m52, m6, hg]
   iterate 5
    refine Jas (by omega) ?_
    simp -implicitDefEqProofs (disch := omega) only [go_sem, e6, e8, e10, e12, e13, e14, m52, m6, hg]
   simp -implicitDefEqProofs (disch := omega) only [go_sem, e6, e8, e10, e12, e13, e14, m52, m6, hg, t8, hpl, hpay, hstep]; unfold chg1 at hn1
   refine Jab (λ hd => ?_) (λ hd => ?_)
   . rw [if_neg hd] at hn1; simp -implicitDefEqProofs (disch := omega) only [go_sem, e6, e8, e10, e12, e13, e14, m52, m6, hg, t8, hpl, hpay, hstep]
     refine Jad (n - 1) (by omega) ⟨v + 1, by omega, ?_⟩
     rw [hs1, hn1]; simp -implicitDefEqProofs (disch := omega) only [go_sem, e6, e8, e10, e12, e13, e14, m52, m6, hg, t8, hpl, hpay, hstep, L0a]
     simp
   . rw [if_pos (by simpa using hd), L0C] at hn1
     simp -implicitDefEqProofs (disch := omega) only [go_sem, e6, e8, e10, e12, e13, e14, m52, m6, hg, t8, hpl, hpay, hstep]
     refine Jad (n - 1) (by omega) ⟨v + 1, by omega, ?_⟩
     rw [hs1, hn1]; simp -implicitDefEqProofs (disch := omega) only [go_sem, e6, e8, e10, e12, e13, e14, m52, m6, hg, t8, hpl, hpay, hstep]
     simp
 have e : v = L.length := by omega
 subst e; rw [L05] at e13; rw [wl] at m52; generalize JaD (L.map bch) = W at *; generalize chgF h txC L = C at *; simp -implicitDefEqProofs (disch := omega) only [go_sem, e6, e8, e10, e12, e13, e14, m52, m6]
 refine Jaa d6 ?_
 simp -implicitDefEqProofs (disch := omega) only [go_sem, e6, e8, e10, e12, e13, e14, m52, m6]
 refine Jel Plain.mono ?_
 simp -implicitDefEqProofs (disch := omega) only [go_sem, e6, e8, e10, e12, e13, e14, m52, m6]
 refine JcJ (List.replicate 32 0) (by simp -implicitDefEqProofs (disch := omega) only [go_sem]; rfl) (by intro b; simp -implicitDefEqProofs (disch := omega) only [go_sem, e8, e12]; intro e; cases e) (e := 5) rfl rfl rfl ?_
 rw [show strOfNums (List.replicate 32 0) = K from hk]
 simp -implicitDefEqProofs (disch := omega) only [go_sem, e6, e8, e10, e12, e13, e14, m52, m6]
 refine Jaa d7 ?_
 simp -implicitDefEqProofs (disch := omega) only [go_sem, e6, e8, e10, e12, e13, e14, m52, m6, hw8]
 refine Jaa (JdZ W W (by omega) (by omega)) ?_
 rw [decide_eq_true rfl]; simp -implicitDefEqProofs (disch := omega) only [go_sem, e6, e8, e10, e12, e13, e14, m52, m6, hw8]
 refine Jaa (JdZ W W (by omega) (by omega)) ?_
 rw [decide_eq_true rfl]; simp -implicitDefEqProofs (disch := omega) only [go_sem, e6, e8, e10, e12, e13, e14, m52, m6, hw8, results4]
end Go.Proofs.YtlecbpkidomjbaaGreatDoor.Au
set_option maxRecDepth 100000
namespace Go.Proofs.YtlecbpkidomjbaaGreatDoor
open Go.Proofs.Tryz
open Go.Vai Go Go.Proofs
set_option maxHeartbeats 4000000 in
theorem auditTrips_lifted (os : Os) (b : os.Started) (H : Type) (enc : TypeId × Value -> H) :
 ReturnsInHanded {} Tryz.checked os 4 .any (λ w args => (Rows.auditTripsSpec.pre enc prog Tryz.f4 [] false w args /\ laidMetH prog JnG w) /\ sizedMet enc prog Tryz.f4 (OpenSpec.ofChange Rows.auditTripsSpec) false w args)
  (Rows.auditTripsSpec.post enc prog Tryz.f4 false true false false) :=
 Ju1 (C := Tryz.checked) (tb := 4) (ps := [ON, OI]) (X := λ w _ => laidMetH prog JnG w) (λ _ _ _ i h => h.of_heap i) own3 b (by kernel_rfl) func4
  (ChangeSpec.witness_shaped (enc := enc) (C := Tryz.checked) (os := os) (X := λ w _ => laidMetH prog JnG w) false (World.doorLaid prog 7 os) #[.agg #[.slice none 0 0, .slice none 0 0, .slice none 0 0, .slice none 0 0, .slice none 0 0, .slice none 0 0, .slice none 0 0], .int .i64 0] 8 rfl (World.shaped_of_RefB (by kernel_rfl) (by kernel_rfl)) (by kernel_rfl) (by kernel_rfl) (by kernel_rfl) (JrZ os _))
  Jsf (by kernel_rfl) (by kernel_rfl) (by kernel_rfl) rfl (JBO λ _ _ => rfl)
  (λ w => ⟨Jql, Jly (by kernel_rfl), trivial⟩)
  (Jxb λ l m f g => by
   obtain ⟨j, c, rfl⟩ := f; obtain ⟨k, d, rfl⟩ := g
   exact Au.auditTrips_ev j k c d)
  (λ _ _ h => gok h)
theorem and2 {a b : Bool} (c : a = true) (d : b = true) : (a && b) = true := by rw [c, d]; rfl
set_option maxHeartbeats 16000000 in
theorem auditTrips_closed : joinedFacts Tryz.checked.prog 4 Tryz.f4 Rows.auditTripsSpec Rows.auditTripsRow = true := by
 unfold joinedFacts
 with_reducible repeat' refine and2 ?_ ?_
 all_goals as_aux_lemma => kernel_rfl
theorem auditTrips_row : Rows.AuditTripsSaid :=
 OpenClaim.holds_of_wide 4 Tryz.f4 rfl rfl rfl rfl rfl rfl rfl ⟨rfl, rfl, rfl, rfl, rfl⟩ rfl rfl rfl rfl rfl (by kernel_rfl) func4 auditTrips_closed
  (of_decide_eq_true (by kernel_rfl)) (by unfold Func.isWrapper; first | (rw [if_pos (by decide +kernel)]; kernel_rfl) | (rw [if_neg (by decide +kernel)]; exact ⟨rfl, rfl⟩))
  (λ d b H c _ => auditTrips_lifted d b H c)
theorem auditTrips_holds : Rows.AuditTripsCardSaid :=
 Claim7.holds_tied_plain_at .later [] [.data] true (true, "fc0b41ce325a880f6124cc12a5a60d2cc18f91db4f72b25421ccb5b55b6447f3") false
  auditTrips_row (fun _ h => by cases h) (by kernel_rfl) (fun _ h => by cases h) auditTrips_row_tie rfl ⟨rfl, rfl⟩ (by kernel_rfl) rfl
  (fun f fn hf hfn => by
   obtain rfl : f = 4 := Option.some.inj ((show prog.funcNamed "dialtone/dialtonelaw40.AuditTrips" = some 4 by kernel_rfl).symm.trans hf) |>.symm
   obtain rfl : fn = Tryz.f4 := (Option.some.inj (func4.symm.trans hfn)).symm
   exact ⟨by kernel_rfl, fun j t ht => by
    rw [Tryz.params4] at ht
    rcases j with _ | j
    . obtain rfl : t = 28 := by simpa using ht.symm
      exact (show prog.wantsStandIn 28 = false by kernel_rfl)
    rcases j with _ | j
    . obtain rfl : t = 3 := by simpa using ht.symm
      exact (show prog.wantsStandIn 3 = false by kernel_rfl)
    simp at ht⟩)
  (by kernel_rfl)
#print axioms auditTrips_holds
end Go.Proofs.YtlecbpkidomjbaaGreatDoor

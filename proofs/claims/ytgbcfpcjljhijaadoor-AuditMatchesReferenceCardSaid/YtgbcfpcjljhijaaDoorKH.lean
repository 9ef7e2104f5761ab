/- The document's texts -/
import Derived.Test.YtgbcfpcjljhijaaDoorKG
set_option linter.unusedVariables false
set_option linter.unusedSimpArgs false
set_option maxRecDepth 100000
namespace Go.Proofs.YtgbcfpcjljhijaaDoor
open Go.Vai Go Go.Proofs
open Nat (reduceEqDiff reduceMul reduceAdd reduceDiv reduceLeDiff)
open Int (reduceToNat reduceNe reduceEq reduceLT reduceLE)
theorem inR_ev (n lo hi : Int) : Ev Tryd.prog 52 [I n, I lo, I hi] (B (inF n lo hi)) := by
  refine ev_of Tryd.func52 rfl (by kernel_rfl) mo (Nat.le_of_ble_eq_true rfl) ?_
  simp -implicitDefEqProofs (disch := omega) only [go_sem, Tryd.ntmps52]
  refine branch_mk (fun h => ?_) (fun h => ?_) <;> simp -implicitDefEqProofs (disch := omega) only [go_sem, Tryd.results52]
  · have h : lo ≤ n := by omega
    simp [inF, h]
  · have h : ¬ lo ≤ n := by omega
    simp [inF, h]
theorem chOK_R (c : Ch) : chOK c = (inF c.h 0 63 && (inF c.p 0 7 && (inF c.q 0 7 && (decide (c.p ≠ c.q) && (inF c.a 0 1000000000 && decide (c.t.size ≤ 100)))))) := by
  unfold chOK
  generalize inF c.h 0 63 = x1
  generalize inF c.p 0 7 = x2
  generalize inF c.q 0 7 = x3
  generalize decide (c.p ≠ c.q) = x4
  generalize inF c.a 0 1000000000 = x5
  generalize decide (c.t.size ≤ 100) = x6
  cases x1 <;> cases x2 <;> cases x3 <;> cases x4 <;> cases x5 <;> cases x6 <;> rfl
theorem chargeR_ev (c : Ch) : Ev Tryd.prog 81 [CH c] (B (chOK c)) := by
  refine ev_of Tryd.func81 rfl (by kernel_rfl) mo (Nat.le_of_ble_eq_true rfl) ?_
  simp -implicitDefEqProofs (disch := omega) only [go_sem, Tryd.ntmps81]
  rw [chOK_R]
  refine callC_at (inR_ev c.h 0 63) ?_
  generalize inF c.h 0 63 = b1
  simp -implicitDefEqProofs (disch := omega) only [go_sem]
  cases b1
  · simp -implicitDefEqProofs (disch := omega) only [go_sem, Tryd.results81]
  simp -implicitDefEqProofs (disch := omega) only [go_sem]
  refine callC_at (inR_ev c.p 0 7) ?_
  generalize inF c.p 0 7 = b2
  simp -implicitDefEqProofs (disch := omega) only [go_sem]
  cases b2
  · simp -implicitDefEqProofs (disch := omega) only [go_sem, Tryd.results81]
  simp -implicitDefEqProofs (disch := omega) only [go_sem]
  refine callC_at (inR_ev c.q 0 7) ?_
  generalize inF c.q 0 7 = b3
  simp -implicitDefEqProofs (disch := omega) only [go_sem]
  cases b3
  · simp -implicitDefEqProofs (disch := omega) only [go_sem, Tryd.results81]
  simp -implicitDefEqProofs (disch := omega) only [go_sem]
  by_cases hpq : c.p = c.q
  · simp -implicitDefEqProofs (disch := omega) only [go_sem, hpq, Tryd.results81]
  simp -implicitDefEqProofs (disch := omega) only [go_sem, hpq]
  refine callC_at (inR_ev c.a 0 1000000000) ?_
  generalize inF c.a 0 1000000000 = b4
  simp -implicitDefEqProofs (disch := omega) only [go_sem, hpq]
  cases b4
  · simp -implicitDefEqProofs (disch := omega) only [go_sem, hpq, Tryd.results81]
  simp -implicitDefEqProofs (disch := omega) only [go_sem, hpq, Tryd.results81]
  rw [show decide ((c.t.size : Int) ≤ 100) = decide (c.t.size ≤ 100) from decide_eq_decide.2 (by omega)]
theorem chargesR_ev (l : List Ch) (hl : l.length ≤ 9223372036854775807) : Ev Tryd.prog 47 [CL l] (B (chsOK l)) := by
  refine ev_of Tryd.func47 rfl (by kernel_rfl) mo (Nat.le_of_ble_eq_true rfl) ?_
  simp -implicitDefEqProofs (disch := omega) only [go_sem, Tryd.ntmps47]
  refine branch_mk (fun hb => ?_) (fun hb => ?_)
  · simp -implicitDefEqProofs (disch := omega) only [go_sem, Tryd.results47]
    have : ¬ l.length ≤ 60 := by omega
    simp [chsOK, this]
  · have h60 : l.length ≤ 60 := by omega
    simp -implicitDefEqProofs (disch := omega) only [go_sem]
    refine loopC_mk (fun n E σ => ∃ v : Nat, v + n = l.length ∧ E 0 = CL l ∧ E 3 = I v ∧ ∀ i, i < v → chOK (gd l i) = true) l.length ⟨0, by omega, ?_⟩ ?_
    · simp -implicitDefEqProofs (disch := omega) only [go_sem]
      simp
    · rintro n E σ ⟨v, hv, h0, h3, hall⟩
      simp -implicitDefEqProofs (disch := omega) only [go_sem, h0, h3]
      refine branch_mk (fun hc => ?_) (fun hc => ?_)
      · simp -implicitDefEqProofs (disch := omega) only [go_sem, h0, h3]
        refine callC_at (chargeR_ev _) ?_
        simp -implicitDefEqProofs (disch := omega) only [go_sem, h0, h3]
        refine branch_mk (fun hd => ?_) (fun hd => ?_)
        · simp -implicitDefEqProofs (disch := omega) only [go_sem, Tryd.results47]
          have : chsOK l = false := by
            simp only [chsOK, Bool.and_eq_false_iff, decide_eq_false_iff_not]
            right; intro hh
            have := hh v (by omega)
            rw [this] at hd; cases hd
          rw [this]
        · simp -implicitDefEqProofs (disch := omega) only [go_sem, h0, h3]
          refine againQ_mk (n - 1) (by omega) ⟨v + 1, by omega, ?_⟩
          simp -implicitDefEqProofs (disch := omega) only [go_sem, h0, h3]
          refine ⟨by simp, fun i hi => ?_⟩
          by_cases e : i = v
          · subst e; simpa using hd
          · exact hall i (by omega)
      · simp -implicitDefEqProofs (disch := omega) only [go_sem, Tryd.results47]
        have : chsOK l = true := by
          simp only [chsOK, Bool.and_eq_true, decide_eq_true_eq]
          exact ⟨h60, fun i hi => hall i (by omega)⟩
        rw [this]
theorem validR_ev (key : ByteArray) (l : List Ch) (hl : l.length ≤ 9223372036854775807) : Ev Tryd.prog 22 [.agg [Str key, CL l]] (B (decide (key.size = 32) && chsOK l)) := by
  refine ev_of Tryd.func22 rfl (by kernel_rfl) mo (Nat.le_of_ble_eq_true rfl) ?_
  simp -implicitDefEqProofs (disch := omega) only [go_sem, Tryd.ntmps22]
  refine branch_mk (fun hc => ?_) (fun hc => ?_)
  · simp -implicitDefEqProofs (disch := omega) only [go_sem]
    refine callC_at (chargesR_ev l hl) ?_
    simp -implicitDefEqProofs (disch := omega) only [go_sem, Tryd.results22]
    have hk : key.size = 32 := by omega
    simp [hk]
  · simp -implicitDefEqProofs (disch := omega) only [go_sem, Tryd.results22]
    have hk : ¬ key.size = 32 := by omega
    simp [hk]
set_option maxHeartbeats 1000000 in
theorem sumsR_ev (l : List Ch) (hl : ∀ c ∈ l, c.ok) (hn : l.length ≤ 1000) : Ev Tryd.prog 48 [CL l] (SL (sumsF l)) := by
  refine ev_sl (r := .new 3 1 ((sumsF l).map I)) ?_ _
  refine ev_of Tryd.func48 rfl (by kernel_rfl) mo (Nat.le_of_ble_eq_true rfl) ?_
  simp -implicitDefEqProofs (disch := omega) only [go_sem, Tryd.ntmps48]
  refine loopC_mk (fun n E σ => ∃ v : Nat, v + n = l.length ∧ E 0 = CL l ∧ E 3 = .own 102760528 1 0 8 ∧ E 4 = I v ∧ σ 102760528 = some ⟨3, 1, (sumsF (l.take v)).map I⟩) l.length ⟨0, by omega, ?_⟩ ?_
  · simp -implicitDefEqProofs (disch := omega) only [go_sem]
    exact ⟨rfl, rfl⟩
  · rintro n E σ ⟨v, hv, h0, h3, h4, s2⟩
    obtain ⟨hsl, hsb⟩ := sumsF_take l hl v (by omega)
    simp -implicitDefEqProofs (disch := omega) only [go_sem, h0, h3, h4, s2]
    refine branch_mk (fun hc => ?_) (fun hc => ?_)
    · have hok := hl _ (gd_mem l v (by omega))
      have hpay := stepS_le hsb hok
      obtain ⟨p1, p2, q1, q2, a1, a2, _⟩ := hok
      have htk : l.take (v + 1) = l.take v ++ [gd l v] := by rw [List.take_add_one, gd_some l v (by omega)]; rfl
      have hst : sumsF (l.take (v + 1)) = stepS (sumsF (l.take v)) (gd l v) := by rw [htk, sumsF_snoc]
      generalize sumsF (l.take v) = q at *
      have hb1 := hsb (gd l v).p.toNat
      have hb2 := hpay (gd l v).q.toNat
      have hpl : (payS q (gd l v)).length = 8 := by rw [payS_length]; exact hsl
      have hpay : q.set (gd l v).p.toNat (gd q (gd l v).p.toNat - (gd l v).a) = payS q (gd l v) := rfl
      have hstep : (payS q (gd l v)).set (gd l v).q.toNat (gd (payS q (gd l v)) (gd l v).q.toNat + (gd l v).a) = stepS q (gd l v) := rfl
      simp -implicitDefEqProofs (disch := omega) only [go_sem, h0, h3, h4, s2, hsl, hpl, hpay, hstep]
      refine againQ_mk (n - 1) (by omega) ⟨v + 1, by omega, ?_⟩
      rw [hst]
      simp -implicitDefEqProofs (disch := omega) only [go_sem, h0, h3, h4, s2, hsl, hpl, hpay, hstep]
      simp
    · have e : v = l.length := by omega
      subst e
      rw [List.take_length] at s2 hsl hsb
      simp -implicitDefEqProofs (disch := omega) only [go_sem, h0, h3, h4, s2, hsl, Tryd.results48, List.take_of_length_le]
theorem sumsROK_ev (l : List Ch) (hl : l.length ≤ 9223372036854775807) (h : chsOK l = true) : Ev Tryd.prog 18 [CL l] (.tup [SL (sumsF l), I 0]) := by
  obtain ⟨h1, h2⟩ := chsOK_iff l h
  refine ev_of Tryd.func18 rfl (by kernel_rfl) mo (Nat.le_of_ble_eq_true rfl) ?_
  simp -implicitDefEqProofs (disch := omega) only [go_sem, Tryd.ntmps18]
  have hv := chargesR_ev l hl
  rw [h] at hv
  refine callC_at hv ?_
  simp -implicitDefEqProofs (disch := omega) only [go_sem]
  refine callC_at (sumsR_ev l h2 (by omega)) ?_
  simp -implicitDefEqProofs (disch := omega) only [go_sem, Tryd.results18]
theorem sumsRBad_ev (l : List Ch) (hl : l.length ≤ 9223372036854775807) (h : chsOK l = false) : Ev Tryd.prog 18 [CL l] (.tup [.sl 1 [], I 400]) := by
  refine ev_sl (r := .tup [.new 3 1 [], I 400]) ?_ _
  refine ev_of Tryd.func18 rfl (by kernel_rfl) mo (Nat.le_of_ble_eq_true rfl) ?_
  simp -implicitDefEqProofs (disch := omega) only [go_sem, Tryd.ntmps18]
  have hv := chargesR_ev l hl
  rw [h] at hv
  refine callC_at hv ?_
  simp -implicitDefEqProofs (disch := omega) only [go_sem]
  simp -implicitDefEqProofs (disch := omega) only [go_sem, Tryd.results18]
theorem numS_snoc : ∀ (l : List Int) (n : Int), numS (l ++ [n]) = numS l ++ viS n := fun l n => by
  apply bI_inj; rw [bI_append, numS_bI, numS_bI, numBC_snoc]
theorem puts_ev (l : List Int) (hr : ∀ n ∈ l, -4611686018427387903 ≤ n ∧ n ≤ 4611686018427387903) (hn : l.length ≤ 1000) : Ev Tryd.prog 87 [SL l] (Str (numS l)) := by
  refine ev_of Tryd.func87 rfl (by kernel_rfl) mo (Nat.le_of_ble_eq_true rfl) ?_
  simp -implicitDefEqProofs (disch := omega) only [go_sem, Tryd.ntmps87]
  refine loopC_mk (fun n E σ => ∃ v : Nat, v + n = l.length ∧ E 0 = SL l ∧ E 3 = Str (numS (l.take v)) ∧ E 4 = I v) l.length ⟨0, by omega, ?_⟩ ?_
  · simp -implicitDefEqProofs (disch := omega) only [go_sem, List.take_zero]
    exact ⟨rfl, rfl⟩
  · rintro n E σ ⟨v, hv, h0, h3, h4⟩
    simp -implicitDefEqProofs (disch := omega) only [go_sem, h0, h3, h4]
    refine branch_mk (fun hc => ?_) (fun hc => ?_)
    · have htk : l.take (v + 1) = l.take v ++ [gd l v] := by rw [List.take_add_one, gd_some l v (by omega)]; rfl
      have hb := hr _ (gd_mem l v (by omega))
      have hz := numS_size (l.take v)
      rw [List.length_take] at hz
      have hz2 := viS_size (gd l v)
      simp -implicitDefEqProofs (disch := omega) only [go_sem, h0, h3, h4]
      refine callC_at (putIntR_ev _ hb.1 hb.2) ?_
      simp -implicitDefEqProofs (disch := omega) only [go_sem, h0, h3, h4]
      refine againQ_mk (n - 1) (by omega) ⟨v + 1, by omega, ?_⟩
      rw [htk, numS_snoc]
      simp -implicitDefEqProofs (disch := omega) only [go_sem, h0, h3, h4]
      simp
    · have e : v = l.length := by omega
      subst e
      rw [List.take_length] at h3
      simp -implicitDefEqProofs (disch := omega) only [go_sem, h0, h3, h4, Tryd.results87]
theorem saltR_ev (key : ByteArray) (h : Int) (hk : key.size ≤ 10000) (h0 : 0 ≤ h) (h1 : h ≤ 1000000) : Ev Tryd.prog 54 [Str key, I h] (Str (saltF key h)) := by
  refine ev_of Tryd.func54 rfl (by kernel_rfl) mo (Nat.le_of_ble_eq_true rfl) ?_
  have hv := viS_size h
  have hl := leafF_size (viS h)
  have e : numS [h] = viS h := by apply bI_inj; rw [numS_bI]; simp [numBC]
  simp -implicitDefEqProofs (disch := omega) only [go_sem, Tryd.ntmps54]
  refine callC_sem rfl ?_
  refine freeze_op [115343472] ?_
  simp -implicitDefEqProofs (disch := omega) only [go_sem]
  refine callC_at (puts_ev [h] (by simp; omega) (by simp)) ?_
  rw [e]
  simp -implicitDefEqProofs (disch := omega) only [go_sem]
  refine callC_at (leafR_at (viS h) (by omega)) ?_
  simp -implicitDefEqProofs (disch := omega) only [go_sem]
  refine callC_at (nodeR_at key (leafF (viS h)) (by omega)) ?_
  simp -implicitDefEqProofs (disch := omega) only [go_sem, Tryd.results54]
  rfl
theorem codeR_ev (s : List Int) (d : ByteArray) (h8 : s.length ≤ 1000) (hr : ∀ n ∈ s, -4611686018427387903 ≤ n ∧ n ≤ 4611686018427387903) (hd : d.size ≤ 1000) : Ev Tryd.prog 96 [RP (s, d)] (Str (codeF s d)) := by
  refine ev_of Tryd.func96 rfl (by kernel_rfl) mo (Nat.le_of_ble_eq_true rfl) ?_
  have hz := numS_size s
  simp -implicitDefEqProofs (disch := omega) only [go_sem, Tryd.ntmps96]
  refine callC_at (puts_ev s hr h8) ?_
  simp -implicitDefEqProofs (disch := omega) only [go_sem, Tryd.results96]
  rfl
theorem ownR_ev (l : List Ch) (h : Int) (hl : l.length ≤ 1000) : Ev Tryd.prog 53 [CL l, I h] (CL (ofF l h)) := by
  refine ev_sl (r := .new 30 5 ((ofF l h).map CH)) ?_ _
  refine ev_of Tryd.func53 rfl (by kernel_rfl) mo (Nat.le_of_ble_eq_true rfl) ?_
  simp -implicitDefEqProofs (disch := omega) only [go_sem, Tryd.ntmps53]
  refine loopC_mk (fun n E σ => ∃ v : Nat, v + n = l.length ∧ E 0 = CL l ∧ E 1 = I h ∧ E 6 = I v ∧ E 5 = .own 113246288 5 0 (ofF (l.take v) h).length ∧ σ 113246288 = some ⟨30, 5, (ofF (l.take v) h).map CH⟩) l.length ⟨0, by omega, ?_⟩ ?_
  · simp -implicitDefEqProofs (disch := omega) only [go_sem, ofF]
    simp
  · rintro n E σ ⟨v, hv, h0, h1, h6, h5, sB⟩
    have hol : (ofF (l.take v) h).length ≤ 1000 := by
      have := List.length_filter_le (fun c : Ch => decide (c.h = h)) (l.take v)
      rw [List.length_take] at this; unfold ofF; omega
    simp -implicitDefEqProofs (disch := omega) only [go_sem, h0, h1, h6, h5, sB]
    refine branch_mk (fun hc => ?_) (fun hc => ?_)
    · have htk : l.take (v + 1) = l.take v ++ [gd l v] := by rw [List.take_add_one, gd_some l v (by omega)]; rfl
      simp -implicitDefEqProofs (disch := omega) only [go_sem, h0, h1, h6, h5, sB]
      refine branch_mk (fun hd => ?_) (fun hd => ?_)
      · have hof : ofF (l.take (v + 1)) h = ofF (l.take v) h ++ [gd l v] := by rw [htk]; simp [ofF, hd]
        simp -implicitDefEqProofs (disch := omega) only [go_sem, h0, h1, h6, h5, sB, List.take_length]
        refine againQ_mk (n - 1) (by omega) ⟨v + 1, by omega, ?_⟩
        rw [hof]
        simp -implicitDefEqProofs (disch := omega) only [go_sem, h0, h1, h6, h5, sB, List.take_length]
        simp
      · have hof : ofF (l.take (v + 1)) h = ofF (l.take v) h := by rw [htk]; simp [ofF, hd]
        simp -implicitDefEqProofs (disch := omega) only [go_sem, h0, h1, h6, h5, sB]
        refine againQ_mk (n - 1) (by omega) ⟨v + 1, by omega, ?_⟩
        rw [hof]
        simp -implicitDefEqProofs (disch := omega) only [go_sem, h0, h1, h6, h5, sB]
        simp
    · have e : v = l.length := by omega
      subst e
      rw [List.take_length] at h5 sB hol
      simp -implicitDefEqProofs (disch := omega) only [go_sem, h0, h1, h6, h5, sB, List.take_length, Tryd.results53]
end Go.Proofs.YtgbcfpcjljhijaaDoor
set_option maxRecDepth 100000
namespace Go.Proofs.YtgbcfpcjljhijaaDoor
open Go.Vai Go Go.Proofs
open Nat (reduceEqDiff reduceMul reduceAdd reduceDiv reduceLeDiff)
open Int (reduceToNat reduceNe reduceEq reduceLT reduceLE)
theorem chsS_snoc (l : List Ch) (c : Ch) : chsS (l ++ [c]) = chsS l ++ chS c := by
  apply bI_inj; rw [bI_append, chsS_bI, chsS_bI, chS_bI]; simp
theorem chsS_size {l : List Ch} (hl : ∀ c ∈ l, c.ok) : (chsS l).size ≤ 140 * l.length := by
  rw [← bI_length, chsS_bI]; exact flat_length l hl
set_option maxHeartbeats 1000000 in
theorem content_ev (l : List Ch) (hl : ∀ c ∈ l, c.ok) (hn : l.length ≤ 60) : Ev Tryd.prog 104 [CL l] (Str (contF l)) := by
  refine ev_of Tryd.func104 rfl (by kernel_rfl) mo (Nat.le_of_ble_eq_true rfl) ?_
  simp -implicitDefEqProofs (disch := omega) only [go_sem, Tryd.ntmps104]
  refine callC_sem rfl ?_
  refine freeze_op [220201104] ?_
  simp -implicitDefEqProofs (disch := omega) only [go_sem]
  refine callC_at (puts_ev [(l.length : Int)] (by simp; omega) (by simp)) ?_
  have hz := numS_size [(l.length : Int)]
  simp only [List.length_singleton] at hz
  generalize hp : numS [(l.length : Int)] = p at *
  simp -implicitDefEqProofs (disch := omega) only [go_sem]
  refine loopC_mk (fun n E σ => ∃ v : Nat, v + n = l.length ∧ E 0 = CL l ∧ E 3 = Str (p ++ chsS (l.take v)) ∧ E 4 = I v) l.length ⟨0, by omega, ?_⟩ ?_
  · simp -implicitDefEqProofs (disch := omega) only [go_sem, List.take_zero]
    refine ⟨?_, rfl⟩
    rw [show chsS [] = ⟨#[]⟩ from rfl]
    congr 2
    apply bI_inj; rw [bI_append]; simp [bI]
  · rintro n E σ ⟨v, hv, h0, h3, h4⟩
    have hsz := chsS_size (l := l.take v) (fun c hc => hl c (List.mem_of_mem_take hc))
    rw [List.length_take] at hsz
    have hps : (p ++ chsS (l.take v)).size ≤ 10000 := by rw [ByteArray.size_append]; omega
    simp -implicitDefEqProofs (disch := omega) only [go_sem, h0, h3, h4]
    refine branch_mk (fun hc => ?_) (fun hc => ?_)
    · have htk : l.take (v + 1) = l.take v ++ [gd l v] := by rw [List.take_add_one, gd_some l v (by omega)]; rfl
      have hok := hl _ (gd_mem l v (by omega))
      obtain ⟨p1, p2, q1, q2, a1, a2, _, _, ht⟩ := hok
      have hvs := viS_size ((gd l v).t.size : Int)
      have hnl3 := numS_size [(gd l v).p, (gd l v).q, (gd l v).a]
      simp only [List.length_cons, List.length_nil] at hnl3
      have hws : (viS ((gd l v).t.size : Int) ++ (gd l v).t).size ≤ 200 := by rw [ByteArray.size_append]; omega
      have hnx : p ++ chsS (l.take (v + 1)) = (p ++ chsS (l.take v)) ++ numS [(gd l v).p, (gd l v).q, (gd l v).a] ++ (viS ((gd l v).t.size : Int) ++ (gd l v).t) := by
        rw [htk, chsS_snoc]; apply bI_inj; simp only [bI_append, chS, List.append_assoc]
      simp -implicitDefEqProofs (disch := omega) only [go_sem, h0, h3, h4]
      refine callC_at (putStrR_ev (gd l v).t (by omega)) ?_
      generalize viS ((gd l v).t.size : Int) ++ (gd l v).t = w at *
      generalize hq : p ++ chsS (l.take v) = q at *
      simp -implicitDefEqProofs (disch := omega) only [go_sem, h0, h3, h4]
      refine callC_at (puts_ev [(gd l v).p, (gd l v).q, (gd l v).a] (by intro n hn; simp at hn; rcases hn with rfl | rfl | rfl <;> omega) (by simp)) ?_
      generalize numS [(gd l v).p, (gd l v).q, (gd l v).a] = r at *
      have hqr : (q ++ r).size = q.size + r.size := ByteArray.size_append
      simp -implicitDefEqProofs (disch := omega) only [go_sem, h0, h3, h4]
      refine againQ_mk (n - 1) (by omega) ⟨v + 1, by omega, ?_⟩
      rw [hnx]
      simp -implicitDefEqProofs (disch := omega) only [go_sem, h0, h3, h4]
      simp
    · have e : v = l.length := by omega
      subst e
      rw [List.take_length] at h3
      simp -implicitDefEqProofs (disch := omega) only [go_sem, h0, h3, h4, Tryd.results104]
      rw [← hp]; rfl
end Go.Proofs.YtgbcfpcjljhijaaDoor
set_option maxRecDepth 100000
namespace Go.Proofs.YtgbcfpcjljhijaaDoor
open Go.Vai Go Go.Proofs
open Nat (reduceEqDiff reduceMul reduceAdd reduceDiv reduceLeDiff)
open Int (reduceToNat reduceNe reduceEq reduceLT reduceLE)
abbrev SLs (l : List ByteArray) : AV := .sl 1 (l.map Str)
section
variable (p : Nat → Bool) (l : List ByteArray)
@[go_sem] theorem namesL_Str : AV.namesL p (l.map Str) = false := namesL_map p l Str fun _ => rfl
@[go_sem] theorem flatL_Str : AV.flatL (l.map Str) = true := flatL_map l Str fun _ => rfl
@[go_sem] theorem allOK_Str : allOK 1 (l.map Str) = true := allOK_map 1 l Str fun _ => ⟨rfl, rfl⟩
@[go_sem] theorem append_Str (x : ByteArray) : l.map Str ++ [.v (.string x)] = (l ++ [x]).map Str := by simp
end
theorem ba_assoc (a b c : ByteArray) : (a ++ b) ++ c = a ++ (b ++ c) := by apply bI_inj; simp only [bI_append, List.append_assoc]
theorem contF_size {l : List Ch} (hl : ∀ c ∈ l, c.ok) (hn : l.length ≤ 60) : (contF l).size ≤ 10000 := by
  have h1 := chsS_size hl
  have h2 := numS_size [(l.length : Int)]
  simp only [List.length_singleton] at h2
  unfold contF; rw [ByteArray.size_append]; omega
theorem sumsF_nb {l : List Ch} (hl : ∀ c ∈ l, c.ok) (hn : l.length ≤ 60) : ∀ n ∈ sumsF l, -4611686018427387903 ≤ n ∧ n ≤ 4611686018427387903 := fun n hn' => by
  have := (leafT_ok ⟨#[]⟩ l hl hn).2.1 n hn'
  omega
set_option maxHeartbeats 1000000 in
theorem leafR_tt (salt : ByteArray) (l : List Ch) (hs : salt.size = 32) (hl : ∀ c ∈ l, c.ok) (hn : l.length ≤ 60) : Ev Tryd.prog 77 [Str salt, CL l] (.tup [RP (leafT salt l), .new 9 1 ((leafH salt l).map Str)]) := by
  have hcz := contF_size hl hn
  have hlf := leafF_size (contF l)
  have hnf := nodeF_size salt (leafF (contF l))
  have hz := numS_size (sumsF l)
  have hs8 := sumsF_len l
  have hcF : z1 ++ salt ++ leafF (contF l) = z1 ++ (salt ++ leafF (contF l)) := ba_assoc _ _ _
  have hsz1 : (z1 ++ salt).size = 1 + salt.size := ByteArray.size_append
  have hsz0 : ∀ a : ByteArray, (z0 ++ a).size = 1 + a.size := fun a => ByteArray.size_append
  refine ev_of Tryd.func77 rfl (by kernel_rfl) mo (Nat.le_of_ble_eq_true rfl) ?_
  simp -implicitDefEqProofs (disch := omega) only [go_sem, Tryd.ntmps77]
  refine callC_at (sumsR_ev l hl (by omega)) ?_
  simp -implicitDefEqProofs (disch := omega) only [go_sem]
  refine callC_at (content_ev l hl hn) ?_
  simp -implicitDefEqProofs (disch := omega) only [go_sem]
  refine callC_at (leafR_at (contF l) (by omega)) ?_
  simp -implicitDefEqProofs (disch := omega) only [go_sem]
  refine callC_at (puts_ev (sumsF l) (sumsF_nb hl hn) (by omega)) ?_
  simp -implicitDefEqProofs (disch := omega) only [go_sem]
  refine callC_at (nodeR_at salt (leafF (contF l)) (by omega)) ?_
  have hmz : (numS (sumsF l) ++ nodeF salt (leafF (contF l))).size ≤ 200 := by rw [ByteArray.size_append]; omega
  have hdg : leafF (numS (sumsF l) ++ nodeF salt (leafF (contF l))) = tleafD salt l := rfl
  have hH : leafH salt l = [z0 ++ contF l, z1 ++ (salt ++ leafF (contF l)), z0 ++ (numS (sumsF l) ++ nodeF salt (leafF (contF l)))] := rfl
  rw [hH]
  simp -implicitDefEqProofs (disch := omega) only [go_sem]
  generalize numS (sumsF l) ++ nodeF salt (leafF (contF l)) = mask at *
  refine callC_at (leafR_at mask (by omega)) ?_
  rw [hdg]
  simp -implicitDefEqProofs (disch := omega) only [go_sem]
  refine callC_at (content_ev l hl hn) ?_
  have e0 : (⟨#[0]⟩ : ByteArray) = z0 := rfl
  have e1 : (⟨#[1]⟩ : ByteArray) = z1 := rfl
  have es0 : z0.size = 1 := rfl
  have es1 : z1.size = 1 := rfl
  simp -implicitDefEqProofs (disch := omega) only [go_sem, e0, e1, es0, es1, hcF, Tryd.results77]
  rfl
theorem codeR_at {B : Int} {t : Tot} (h : TotB B t) (hB : B ≤ 4611686018427387903) : Ev Tryd.prog 96 [RP t] (Str (codeF t.1 t.2)) := by
  obtain ⟨s, d⟩ := t
  exact codeR_ev s d (by have := h.1; simp at this; omega) (h.nb hB) (by have := h.2.2; simp at this; omega)
theorem codeF_size {B : Int} {t : Tot} (h : TotB B t) : (codeF t.1 t.2).size ≤ 1000 := by
  have h1 := numS_size t.1
  have h2 := h.1
  have h3 := h.2.2
  unfold codeF; rw [ByteArray.size_append]; omega
def joinK (s t : List Int) (v : Nat) : List Int := (List.range v).map fun j => gd s j + gd t j
theorem joinK_succ (s t : List Int) (v : Nat) : joinK s t (v + 1) = joinK s t v ++ [gd s v + gd t v] := by unfold joinK; rw [List.range_succ, List.map_append]; rfl
set_option maxHeartbeats 1000000 in
theorem joinR_at {a b : Tot} (ha : TotB 1000000000000000 a) (hb : TotB 1000000000000000 b) : Ev Tryd.prog 78 [RP a, RP b] (RP (joinT a b)) := by
  have hca := codeR_at ha (by omega)
  have hcb := codeR_at hb (by omega)
  have hza := codeF_size ha
  have hzb := codeF_size hb
  have ha8 := ha.1
  have hb8 := hb.1
  have hnode : (joinT a b).2 = nodeF (codeF a.1 a.2) (codeF b.1 b.2) := rfl
  refine ev_ofB [2, 6] Tryd.func78 rfl (by kernel_rfl) mo (Nat.le_of_ble_eq_true rfl) ?_
  simp -implicitDefEqProofs (disch := omega) only [go_sem, Tryd.ntmps78]
  refine callC_at hca ?_
  simp -implicitDefEqProofs (disch := omega) only [go_sem]
  refine callC_at hcb ?_
  simp -implicitDefEqProofs (disch := omega) only [go_sem]
  refine callC_at (nodeR_at _ _ (by omega)) ?_
  rw [← hnode]
  have hj1 : (joinT a b).1 = joinS a.1 b.1 := rfl
  have hjab : joinT a b = ((joinT a b).1, (joinT a b).2) := rfl
  rw [hjab, hj1]
  generalize (joinT a b).2 = N at *
  simp -implicitDefEqProofs (disch := omega) only [go_sem]
  refine nilOwn_C 165675088 165675089 0 0 3 1 (k := ⟨35, 2, [.agg [.v (.slice none 0 0), Str N]]⟩) (el := .agg [.v (.slice none 0 0), Str N]) (by simp -implicitDefEqProofs (disch := omega) only [go_sem]) (by decide) rfl rfl (by simp) (by simp -implicitDefEqProofs (disch := omega) only [go_sem]) rfl ?_
  refine reg_mk Plain.mono ?_
  simp -implicitDefEqProofs (disch := omega) only [go_sem]
  refine loopC_mk (fun n E σ => ∃ v : Nat, v + n = 8 ∧ E 2 = .ptr 165675040 2 0 0 ∧ E 3 = .ptr 165675056 2 0 0 ∧ E 4 = .ptr 165675072 2 0 0 ∧ E 5 = .ptr 165675088 2 0 0 ∧ E 6 = I v ∧ σ 165675040 = some ⟨35, 2, [RP a]⟩ ∧ σ 165675056 = some ⟨35, 2, [RP b]⟩ ∧ σ 165675072 = some ⟨35, 2, [.agg [.v (.slice none 0 0), Str ByteArray.empty]]⟩ ∧ σ 165675088 = some ⟨35, 2, [.agg [.own 165675089 1 0 v, Str N]]⟩ ∧ σ 165675089 = some ⟨3, 1, (joinK a.1 b.1 v).map I⟩) 8 ⟨0, by omega, ?_⟩ ?_
  · simp -implicitDefEqProofs (disch := omega) only [go_sem]
    simp [joinK]
  · rintro n E σ ⟨v, hv, h2, h3, h4, h5, h6, s2, s3, s4, s5, sK⟩
    have hkl : (joinK a.1 b.1 v).length = v := by simp [joinK]
    simp -implicitDefEqProofs (disch := omega) only [go_sem, h2, h3, h4, h5, h6, s2, s3, s4, s5, sK]
    refine branch_mk (fun hc => ?_) (fun hc => ?_)
    · simp -implicitDefEqProofs (disch := omega) only [go_sem, h2, h3, h4, h5, h6, s2, s3, s4, s5, sK]
      refine branch_l (by omega) ?_
      have b1 := ha.2.1 _ (gd_mem a.1 v (by omega))
      have b2 := hb.2.1 _ (gd_mem b.1 v (by omega))
      have hks := joinK_succ a.1 b.1 v
      have hkt : (joinK a.1 b.1 v).take v = joinK a.1 b.1 v := List.take_of_length_le (by omega)
      generalize joinK a.1 b.1 v = q at *
      simp -implicitDefEqProofs (disch := omega) only [go_sem, h2, h3, h4, h5, h6, s2, s3, s4, s5, sK, hkl, hkt]
      refine againQ_mk (n - 1) (by omega) ⟨v + 1, by omega, ?_⟩
      rw [hks]
      simp -implicitDefEqProofs (disch := omega) only [go_sem, h2, h3, h4, h5, h6, s2, s3, s4, s5, sK, hkl, hkt, and_self]
      simp
    · obtain rfl : v = 8 := by omega
      simp -implicitDefEqProofs (disch := omega) only [go_sem, h2, h3, h4, h5, h6, s2, s3, s4, s5, sK]
      refine freeze_reg Plain.mono [165675088, 165675089] ?_
      simp -implicitDefEqProofs (disch := omega) only [go_sem, h2, h3, h4, h5, h6, s2, s3, s4, s5, sK, hkl]
      have hjk : joinK a.1 b.1 8 = joinS a.1 b.1 := rfl
      simp -implicitDefEqProofs (disch := omega) only [go_sem, h2, h3, h4, h5, h6, s2, s3, s4, s5, sK, hkl, hjk, Tryd.results78]
end Go.Proofs.YtgbcfpcjljhijaaDoor
set_option maxRecDepth 100000
namespace Go.Proofs.YtgbcfpcjljhijaaDoor
open Go.Vai Go Go.Proofs
open Nat (reduceEqDiff reduceMul reduceAdd reduceDiv reduceLeDiff)
open Int (reduceToNat reduceNe reduceEq reduceLT reduceLE)
theorem leafR_sl (salt : ByteArray) (l : List Ch) (hs : salt.size = 32) (hl : ∀ c ∈ l, c.ok) (hn : l.length ≤ 60) : Ev Tryd.prog 77 [Str salt, CL l] (.tup [RP (leafT salt l), SLs (leafH salt l)]) := ev_sl (leafR_tt salt l hs hl hn) _
abbrev RPLL (l : List (List Tot)) : AV := .sl 1 (l.map RPL)
@[go_sem] theorem namesL_RPL (p : Nat → Bool) (l : List (List Tot)) : AV.namesL p (l.map RPL) = false := namesL_map p l RPL fun _ => rfl
@[go_sem] theorem allOK_RPL (l : List (List Tot)) : allOK 1 (l.map RPL) = true := allOK_map 1 l RPL fun _ => ⟨rfl, rfl⟩
@[go_sem] theorem append_RPL (l : List (List Tot)) (r : List Tot) : l.map RPL ++ [.sl 2 (r.map RP)] = (l ++ [r]).map RPL := by simp
def rowsT (key : ByteArray) (l : List Ch) (k : Nat) : List (List Tot) := (List.range k).map (rowT key l)
set_option maxHeartbeats 4000000 in
theorem tree_ev (key : ByteArray) (l : List Ch) (hk : key.size ≤ 1000) (hl : ∀ c ∈ l, c.ok) (hn : l.length ≤ 60) : Ev Tryd.prog 44 [LP key l] (RPLL (rowsT key l 7)) := by
  refine ev_sl (r := .new 36 1 ((rowsT key l 7).map RPL)) ?_ _
  refine ev_ofB [5, 7, 14] Tryd.func44 rfl (by kernel_rfl) mo (Nat.le_of_ble_eq_true rfl) ?_
  simp -implicitDefEqProofs (disch := omega) only [go_sem, Tryd.ntmps44]
  refine loopC_mk (fun n E σ => ∃ v : Nat, v + n = 64 ∧ E 1 = .ptr 94371856 2 0 0 ∧ E 4 = I v ∧ E 3 = .own 94371888 2 0 v ∧ σ 94371856 = some ⟨26, 2, [LP key l]⟩ ∧ σ 94371888 = some ⟨35, 2, ((rowT key l 0).take v).map RP⟩) 64 ⟨0, by omega, ?_⟩ ?_
  · simp -implicitDefEqProofs (disch := omega) only [go_sem]
    simp
  · rintro n E σ ⟨v, hv, h1, h4, h3, s1, sB⟩
    simp -implicitDefEqProofs (disch := omega) only [go_sem, h1, h4, h3, s1, sB]
    refine branch_mk (fun hc => ?_) (fun hc => ?_)
    · have hlt : v < 64 := by omega
      have htk := row0_take key l v hlt
      have hsz := nodeF_size key (leafF (viS v))
      have hrl := rowT_length key l 0 (by omega)
      have hlk : leafT (saltF key v) (ofF l v) = leafK key l v := rfl
      have hlr := leafR_sl (saltF key v) (ofF l v) hsz (ofF_ok hl v) (Nat.le_trans (ofF_len l v) (by omega))
      rw [hlk] at hlr
      have hvl : ((rowT key l 0).take v).length = v := by rw [List.length_take, hrl]; omega
      have hsalt := saltR_ev key v (by omega) (by omega) (by omega)
      have hown := ownR_ev l v (by omega)
      have hlrdn : (AV.tup [RP (leafK key l v), SLs (leafH (saltF key v) (ofF l v))]).dn = false := by
        show (AV.dn (RP _) || (AV.dnL _ || false)) = false
        rw [dn_RP, dnL_map _ _ (fun _ => rfl)]; rfl
      generalize leafK key l v = t at *
      obtain ⟨s, d⟩ := t
      generalize leafH (saltF key v) (ofF l v) = hh at *
      generalize saltF key v = salt at *
      generalize ofF l v = own at *
      have htk' : (rowT key l 0).take (v + 1) = (rowT key l 0).take v ++ [(s, d)] := htk
      obtain ⟨q, hq0⟩ : ∃ q, q = (rowT key l 0).take v := ⟨_, rfl⟩
      rw [← hq0] at hvl sB htk'
      simp -implicitDefEqProofs (disch := omega) only [go_sem, h1, h4, h3, s1, sB, hvl]
      clear hc hlk hsz
      refine region_J (Plain.mono) (fun D E σ => E 1 = .ptr 94371856 2 0 0 ∧ E 4 = I v ∧ E 3 = .own 94371888 2 0 v ∧ σ 94371856 = some ⟨26, 2, [LP key l]⟩ ∧ σ 94371888 = some ⟨35, 2, q.map RP⟩ ∧ (D 13 = true → D 12 = true) ∧ (D 12 = true → D 13 = false → σ 94371920 = some ⟨35, 2, [.agg [.v (.slice none 0 0), .v (.string ByteArray.empty)]]⟩) ∧ (D 13 = true → σ 94371920 = some ⟨35, 2, [RP (s, d)]⟩) ∧ (D 0 = true → E 15 = .ptr 94371856 2 0 0) ∧ (D 1 = true → E 16 = Str key) ∧ (D 2 = true → E 17 = I v) ∧ (D 3 = true → E 18 = Str salt) ∧ (D 4 = true → E 19 = .ptr 94371856 2 0 1) ∧ (D 5 = true → E 20 = CL l) ∧ (D 6 = true → E 21 = I v) ∧ (D 7 = true → E 22 = CL own) ∧ (D 8 = true → E 23 = .tup [RP (s, d), SLs hh]) ∧ (D 9 = true → E 14 = .tup [RP (s, d), SLs hh]) ∧ (D 10 = true → E 24 = RP (s, d)) ∧ (D 11 = true → E 25 = SLs hh) ∧ (D 12 = true → E 5 = .ptr 94371920 2 0 0) ∧ (D 14 = true → E 6 = SLs hh)) ?_ ?_ ?_
      · simp -implicitDefEqProofs (disch := omega) only [go_sem]
        simp [h1, h4, h3, s1, sB]
      · simp only [stepsJ, and_true]
        refine ⟨?_, ?_, ?_, ?_, ?_, ?_, ?_, ?_, ?_, ?_, ?_, ?_, ?_, ?_, ?_⟩
        · rintro D hD hd E σ ⟨h1, h4, h3, s1, sB, c13, s13a, s13b, j0, j1, j2, j3, j4, j5, j6, j7, j8, j9, j10, j11, j12, j14⟩
          cases h12 : D 12
          · have h13 : D 13 = false := by
              cases e : D 13 with
              | false => rfl
              | true => rw [c13 e] at h12; cases h12
            simp -implicitDefEqProofs (disch := omega) only [go_sem, h1, h4, h3, s1, sB]
            repeat' apply And.intro
            all_goals first | assumption | (intro h; rw [h13] at h; cases h; done) | (intro h; rw [h12] at h; cases h; done) | (intro _ h; rw [h13] at h; cases h; done) | (intro _; assumption) | (intro h; refine kill_of ?_ (by first | rfl | simp -implicitDefEqProofs (disch := omega) only [go_sem]); first | exact j0 h | exact j1 h | exact j2 h | exact j3 h | exact j4 h | exact j5 h | exact j6 h | exact j7 h | exact j8 h | exact j9 h | exact j10 h | exact j11 h | exact j12 h | exact j14 h) | (intro h; simp -implicitDefEqProofs (disch := omega) only [go_sem]; done) | (intros; trivial)
          · cases h13 : D 13
            · have g13 := s13a h12 h13
              simp -implicitDefEqProofs (disch := omega) only [go_sem, h1, h4, h3, s1, sB, g13]
              repeat' apply And.intro
              all_goals first | assumption | (intro h; rw [h13] at h; cases h; done) | (intro h; rw [h12] at h; cases h; done) | (intro _ h; rw [h13] at h; cases h; done) | (intro _; assumption) | (intro h; refine kill_of ?_ (by first | rfl | simp -implicitDefEqProofs (disch := omega) only [go_sem]); first | exact j0 h | exact j1 h | exact j2 h | exact j3 h | exact j4 h | exact j5 h | exact j6 h | exact j7 h | exact j8 h | exact j9 h | exact j10 h | exact j11 h | exact j12 h | exact j14 h) | (intro h; simp -implicitDefEqProofs (disch := omega) only [go_sem]; done) | (intros; trivial)
            · have g13 := s13b h13
              simp -implicitDefEqProofs (disch := omega) only [go_sem, h1, h4, h3, s1, sB, g13]
              repeat' apply And.intro
              all_goals first | assumption | (intro h; rw [h13] at h; cases h; done) | (intro h; rw [h12] at h; cases h; done) | (intro _ h; rw [h13] at h; cases h; done) | (intro _; assumption) | (intro h; refine kill_of ?_ (by first | rfl | simp -implicitDefEqProofs (disch := omega) only [go_sem]); first | exact j0 h | exact j1 h | exact j2 h | exact j3 h | exact j4 h | exact j5 h | exact j6 h | exact j7 h | exact j8 h | exact j9 h | exact j10 h | exact j11 h | exact j12 h | exact j14 h) | (intro h; simp -implicitDefEqProofs (disch := omega) only [go_sem]; done) | (intros; trivial)
        · rintro D hD hd E σ ⟨h1, h4, h3, s1, sB, c13, s13a, s13b, j0, j1, j2, j3, j4, j5, j6, j7, j8, j9, j10, j11, j12, j14⟩
          have d0 : D 0 = true := hd ⟨0, .data⟩ (by simp) rfl
          have q0 := j0 d0
          cases h12 : D 12
          · have h13 : D 13 = false := by
              cases e : D 13 with
              | false => rfl
              | true => rw [c13 e] at h12; cases h12
            simp -implicitDefEqProofs (disch := omega) only [go_sem, h1, h4, h3, s1, sB, q0]
            repeat' apply And.intro
            all_goals first | assumption | (intro h; rw [h13] at h; cases h; done) | (intro h; rw [h12] at h; cases h; done) | (intro _ h; rw [h13] at h; cases h; done) | (intro _; assumption) | (intro h; refine kill_of ?_ (by first | rfl | simp -implicitDefEqProofs (disch := omega) only [go_sem]); first | exact j0 h | exact j1 h | exact j2 h | exact j3 h | exact j4 h | exact j5 h | exact j6 h | exact j7 h | exact j8 h | exact j9 h | exact j10 h | exact j11 h | exact j12 h | exact j14 h) | (intro h; simp -implicitDefEqProofs (disch := omega) only [go_sem]; done) | (intros; trivial)
          · cases h13 : D 13
            · have g13 := s13a h12 h13
              simp -implicitDefEqProofs (disch := omega) only [go_sem, h1, h4, h3, s1, sB, q0, g13]
              repeat' apply And.intro
              all_goals first | assumption | (intro h; rw [h13] at h; cases h; done) | (intro h; rw [h12] at h; cases h; done) | (intro _ h; rw [h13] at h; cases h; done) | (intro _; assumption) | (intro h; refine kill_of ?_ (by first | rfl | simp -implicitDefEqProofs (disch := omega) only [go_sem]); first | exact j0 h | exact j1 h | exact j2 h | exact j3 h | exact j4 h | exact j5 h | exact j6 h | exact j7 h | exact j8 h | exact j9 h | exact j10 h | exact j11 h | exact j12 h | exact j14 h) | (intro h; simp -implicitDefEqProofs (disch := omega) only [go_sem]; done) | (intros; trivial)
            · have g13 := s13b h13
              simp -implicitDefEqProofs (disch := omega) only [go_sem, h1, h4, h3, s1, sB, q0, g13]
              repeat' apply And.intro
              all_goals first | assumption | (intro h; rw [h13] at h; cases h; done) | (intro h; rw [h12] at h; cases h; done) | (intro _ h; rw [h13] at h; cases h; done) | (intro _; assumption) | (intro h; refine kill_of ?_ (by first | rfl | simp -implicitDefEqProofs (disch := omega) only [go_sem]); first | exact j0 h | exact j1 h | exact j2 h | exact j3 h | exact j4 h | exact j5 h | exact j6 h | exact j7 h | exact j8 h | exact j9 h | exact j10 h | exact j11 h | exact j12 h | exact j14 h) | (intro h; simp -implicitDefEqProofs (disch := omega) only [go_sem]; done) | (intros; trivial)
        · rintro D hD hd E σ ⟨h1, h4, h3, s1, sB, c13, s13a, s13b, j0, j1, j2, j3, j4, j5, j6, j7, j8, j9, j10, j11, j12, j14⟩
          cases h12 : D 12
          · have h13 : D 13 = false := by
              cases e : D 13 with
              | false => rfl
              | true => rw [c13 e] at h12; cases h12
            simp -implicitDefEqProofs (disch := omega) only [go_sem, h1, h4, h3, s1, sB]
            repeat' apply And.intro
            all_goals first | assumption | (intro h; rw [h13] at h; cases h; done) | (intro h; rw [h12] at h; cases h; done) | (intro _ h; rw [h13] at h; cases h; done) | (intro _; assumption) | (intro h; refine kill_of ?_ (by first | rfl | simp -implicitDefEqProofs (disch := omega) only [go_sem]); first | exact j0 h | exact j1 h | exact j2 h | exact j3 h | exact j4 h | exact j5 h | exact j6 h | exact j7 h | exact j8 h | exact j9 h | exact j10 h | exact j11 h | exact j12 h | exact j14 h) | (intro h; simp -implicitDefEqProofs (disch := omega) only [go_sem]; done) | (intros; trivial)
          · cases h13 : D 13
            · have g13 := s13a h12 h13
              simp -implicitDefEqProofs (disch := omega) only [go_sem, h1, h4, h3, s1, sB, g13]
              repeat' apply And.intro
              all_goals first | assumption | (intro h; rw [h13] at h; cases h; done) | (intro h; rw [h12] at h; cases h; done) | (intro _ h; rw [h13] at h; cases h; done) | (intro _; assumption) | (intro h; refine kill_of ?_ (by first | rfl | simp -implicitDefEqProofs (disch := omega) only [go_sem]); first | exact j0 h | exact j1 h | exact j2 h | exact j3 h | exact j4 h | exact j5 h | exact j6 h | exact j7 h | exact j8 h | exact j9 h | exact j10 h | exact j11 h | exact j12 h | exact j14 h) | (intro h; simp -implicitDefEqProofs (disch := omega) only [go_sem]; done) | (intros; trivial)
            · have g13 := s13b h13
              simp -implicitDefEqProofs (disch := omega) only [go_sem, h1, h4, h3, s1, sB, g13]
              repeat' apply And.intro
              all_goals first | assumption | (intro h; rw [h13] at h; cases h; done) | (intro h; rw [h12] at h; cases h; done) | (intro _ h; rw [h13] at h; cases h; done) | (intro _; assumption) | (intro h; refine kill_of ?_ (by first | rfl | simp -implicitDefEqProofs (disch := omega) only [go_sem]); first | exact j0 h | exact j1 h | exact j2 h | exact j3 h | exact j4 h | exact j5 h | exact j6 h | exact j7 h | exact j8 h | exact j9 h | exact j10 h | exact j11 h | exact j12 h | exact j14 h) | (intro h; simp -implicitDefEqProofs (disch := omega) only [go_sem]; done) | (intros; trivial)
        · rintro D hD hd E σ ⟨h1, h4, h3, s1, sB, c13, s13a, s13b, j0, j1, j2, j3, j4, j5, j6, j7, j8, j9, j10, j11, j12, j14⟩
          have d1 : D 1 = true := hd ⟨1, .data⟩ (by simp) rfl
          have q1 := j1 d1
          have d2 : D 2 = true := hd ⟨2, .data⟩ (by simp) rfl
          have q2 := j2 d2
          cases h12 : D 12
          · have h13 : D 13 = false := by
              cases e : D 13 with
              | false => rfl
              | true => rw [c13 e] at h12; cases h12
            simp -implicitDefEqProofs (disch := omega) only [go_sem, h1, h4, h3, s1, sB, q1, q2]
            refine callC_at hsalt ?_
            simp -implicitDefEqProofs (disch := omega) only [go_sem, h1, h4, h3, s1, sB, q1, q2]
            repeat' apply And.intro
            all_goals first | assumption | (intro h; rw [h13] at h; cases h; done) | (intro h; rw [h12] at h; cases h; done) | (intro _ h; rw [h13] at h; cases h; done) | (intro _; assumption) | (intro h; refine kill_of ?_ (by first | rfl | simp -implicitDefEqProofs (disch := omega) only [go_sem]); first | exact j0 h | exact j1 h | exact j2 h | exact j3 h | exact j4 h | exact j5 h | exact j6 h | exact j7 h | exact j8 h | exact j9 h | exact j10 h | exact j11 h | exact j12 h | exact j14 h) | (intro h; simp -implicitDefEqProofs (disch := omega) only [go_sem]; done) | (intros; trivial)
          · cases h13 : D 13
            · have g13 := s13a h12 h13
              simp -implicitDefEqProofs (disch := omega) only [go_sem, h1, h4, h3, s1, sB, q1, q2, g13]
              refine callC_at hsalt ?_
              simp -implicitDefEqProofs (disch := omega) only [go_sem, h1, h4, h3, s1, sB, q1, q2, g13]
              repeat' apply And.intro
              all_goals first | assumption | (intro h; rw [h13] at h; cases h; done) | (intro h; rw [h12] at h; cases h; done) | (intro _ h; rw [h13] at h; cases h; done) | (intro _; assumption) | (intro h; refine kill_of ?_ (by first | rfl | simp -implicitDefEqProofs (disch := omega) only [go_sem]); first | exact j0 h | exact j1 h | exact j2 h | exact j3 h | exact j4 h | exact j5 h | exact j6 h | exact j7 h | exact j8 h | exact j9 h | exact j10 h | exact j11 h | exact j12 h | exact j14 h) | (intro h; simp -implicitDefEqProofs (disch := omega) only [go_sem]; done) | (intros; trivial)
            · have g13 := s13b h13
              simp -implicitDefEqProofs (disch := omega) only [go_sem, h1, h4, h3, s1, sB, q1, q2, g13]
              refine callC_at hsalt ?_
              simp -implicitDefEqProofs (disch := omega) only [go_sem, h1, h4, h3, s1, sB, q1, q2, g13]
              repeat' apply And.intro
              all_goals first | assumption | (intro h; rw [h13] at h; cases h; done) | (intro h; rw [h12] at h; cases h; done) | (intro _ h; rw [h13] at h; cases h; done) | (intro _; assumption) | (intro h; refine kill_of ?_ (by first | rfl | simp -implicitDefEqProofs (disch := omega) only [go_sem]); first | exact j0 h | exact j1 h | exact j2 h | exact j3 h | exact j4 h | exact j5 h | exact j6 h | exact j7 h | exact j8 h | exact j9 h | exact j10 h | exact j11 h | exact j12 h | exact j14 h) | (intro h; simp -implicitDefEqProofs (disch := omega) only [go_sem]; done) | (intros; trivial)
        · rintro D hD hd E σ ⟨h1, h4, h3, s1, sB, c13, s13a, s13b, j0, j1, j2, j3, j4, j5, j6, j7, j8, j9, j10, j11, j12, j14⟩
          cases h12 : D 12
          · have h13 : D 13 = false := by
              cases e : D 13 with
              | false => rfl
              | true => rw [c13 e] at h12; cases h12
            simp -implicitDefEqProofs (disch := omega) only [go_sem, h1, h4, h3, s1, sB]
            repeat' apply And.intro
            all_goals first | assumption | (intro h; rw [h13] at h; cases h; done) | (intro h; rw [h12] at h; cases h; done) | (intro _ h; rw [h13] at h; cases h; done) | (intro _; assumption) | (intro h; refine kill_of ?_ (by first | rfl | simp -implicitDefEqProofs (disch := omega) only [go_sem]); first | exact j0 h | exact j1 h | exact j2 h | exact j3 h | exact j4 h | exact j5 h | exact j6 h | exact j7 h | exact j8 h | exact j9 h | exact j10 h | exact j11 h | exact j12 h | exact j14 h) | (intro h; simp -implicitDefEqProofs (disch := omega) only [go_sem]; done) | (intros; trivial)
          · cases h13 : D 13
            · have g13 := s13a h12 h13
              simp -implicitDefEqProofs (disch := omega) only [go_sem, h1, h4, h3, s1, sB, g13]
              repeat' apply And.intro
              all_goals first | assumption | (intro h; rw [h13] at h; cases h; done) | (intro h; rw [h12] at h; cases h; done) | (intro _ h; rw [h13] at h; cases h; done) | (intro _; assumption) | (intro h; refine kill_of ?_ (by first | rfl | simp -implicitDefEqProofs (disch := omega) only [go_sem]); first | exact j0 h | exact j1 h | exact j2 h | exact j3 h | exact j4 h | exact j5 h | exact j6 h | exact j7 h | exact j8 h | exact j9 h | exact j10 h | exact j11 h | exact j12 h | exact j14 h) | (intro h; simp -implicitDefEqProofs (disch := omega) only [go_sem]; done) | (intros; trivial)
            · have g13 := s13b h13
              simp -implicitDefEqProofs (disch := omega) only [go_sem, h1, h4, h3, s1, sB, g13]
              repeat' apply And.intro
              all_goals first | assumption | (intro h; rw [h13] at h; cases h; done) | (intro h; rw [h12] at h; cases h; done) | (intro _ h; rw [h13] at h; cases h; done) | (intro _; assumption) | (intro h; refine kill_of ?_ (by first | rfl | simp -implicitDefEqProofs (disch := omega) only [go_sem]); first | exact j0 h | exact j1 h | exact j2 h | exact j3 h | exact j4 h | exact j5 h | exact j6 h | exact j7 h | exact j8 h | exact j9 h | exact j10 h | exact j11 h | exact j12 h | exact j14 h) | (intro h; simp -implicitDefEqProofs (disch := omega) only [go_sem]; done) | (intros; trivial)
        · rintro D hD hd E σ ⟨h1, h4, h3, s1, sB, c13, s13a, s13b, j0, j1, j2, j3, j4, j5, j6, j7, j8, j9, j10, j11, j12, j14⟩
          have d4 : D 4 = true := hd ⟨4, .data⟩ (by simp) rfl
          have q4 := j4 d4
          cases h12 : D 12
          · have h13 : D 13 = false := by
              cases e : D 13 with
              | false => rfl
              | true => rw [c13 e] at h12; cases h12
            simp -implicitDefEqProofs (disch := omega) only [go_sem, h1, h4, h3, s1, sB, q4]
            repeat' apply And.intro
            all_goals first | assumption | (intro h; rw [h13] at h; cases h; done) | (intro h; rw [h12] at h; cases h; done) | (intro _ h; rw [h13] at h; cases h; done) | (intro _; assumption) | (intro h; refine kill_of ?_ (by first | rfl | simp -implicitDefEqProofs (disch := omega) only [go_sem]); first | exact j0 h | exact j1 h | exact j2 h | exact j3 h | exact j4 h | exact j5 h | exact j6 h | exact j7 h | exact j8 h | exact j9 h | exact j10 h | exact j11 h | exact j12 h | exact j14 h) | (intro h; simp -implicitDefEqProofs (disch := omega) only [go_sem]; done) | (intros; trivial)
          · cases h13 : D 13
            · have g13 := s13a h12 h13
              simp -implicitDefEqProofs (disch := omega) only [go_sem, h1, h4, h3, s1, sB, q4, g13]
              repeat' apply And.intro
              all_goals first | assumption | (intro h; rw [h13] at h; cases h; done) | (intro h; rw [h12] at h; cases h; done) | (intro _ h; rw [h13] at h; cases h; done) | (intro _; assumption) | (intro h; refine kill_of ?_ (by first | rfl | simp -implicitDefEqProofs (disch := omega) only [go_sem]); first | exact j0 h | exact j1 h | exact j2 h | exact j3 h | exact j4 h | exact j5 h | exact j6 h | exact j7 h | exact j8 h | exact j9 h | exact j10 h | exact j11 h | exact j12 h | exact j14 h) | (intro h; simp -implicitDefEqProofs (disch := omega) only [go_sem]; done) | (intros; trivial)
            · have g13 := s13b h13
              simp -implicitDefEqProofs (disch := omega) only [go_sem, h1, h4, h3, s1, sB, q4, g13]
              repeat' apply And.intro
              all_goals first | assumption | (intro h; rw [h13] at h; cases h; done) | (intro h; rw [h12] at h; cases h; done) | (intro _ h; rw [h13] at h; cases h; done) | (intro _; assumption) | (intro h; refine kill_of ?_ (by first | rfl | simp -implicitDefEqProofs (disch := omega) only [go_sem]); first | exact j0 h | exact j1 h | exact j2 h | exact j3 h | exact j4 h | exact j5 h | exact j6 h | exact j7 h | exact j8 h | exact j9 h | exact j10 h | exact j11 h | exact j12 h | exact j14 h) | (intro h; simp -implicitDefEqProofs (disch := omega) only [go_sem]; done) | (intros; trivial)
        · rintro D hD hd E σ ⟨h1, h4, h3, s1, sB, c13, s13a, s13b, j0, j1, j2, j3, j4, j5, j6, j7, j8, j9, j10, j11, j12, j14⟩
          cases h12 : D 12
          · have h13 : D 13 = false := by
              cases e : D 13 with
              | false => rfl
              | true => rw [c13 e] at h12; cases h12
            simp -implicitDefEqProofs (disch := omega) only [go_sem, h1, h4, h3, s1, sB]
            repeat' apply And.intro
            all_goals first | assumption | (intro h; rw [h13] at h; cases h; done) | (intro h; rw [h12] at h; cases h; done) | (intro _ h; rw [h13] at h; cases h; done) | (intro _; assumption) | (intro h; refine kill_of ?_ (by first | rfl | simp -implicitDefEqProofs (disch := omega) only [go_sem]); first | exact j0 h | exact j1 h | exact j2 h | exact j3 h | exact j4 h | exact j5 h | exact j6 h | exact j7 h | exact j8 h | exact j9 h | exact j10 h | exact j11 h | exact j12 h | exact j14 h) | (intro h; simp -implicitDefEqProofs (disch := omega) only [go_sem]; done) | (intros; trivial)
          · cases h13 : D 13
            · have g13 := s13a h12 h13
              simp -implicitDefEqProofs (disch := omega) only [go_sem, h1, h4, h3, s1, sB, g13]
              repeat' apply And.intro
              all_goals first | assumption | (intro h; rw [h13] at h; cases h; done) | (intro h; rw [h12] at h; cases h; done) | (intro _ h; rw [h13] at h; cases h; done) | (intro _; assumption) | (intro h; refine kill_of ?_ (by first | rfl | simp -implicitDefEqProofs (disch := omega) only [go_sem]); first | exact j0 h | exact j1 h | exact j2 h | exact j3 h | exact j4 h | exact j5 h | exact j6 h | exact j7 h | exact j8 h | exact j9 h | exact j10 h | exact j11 h | exact j12 h | exact j14 h) | (intro h; simp -implicitDefEqProofs (disch := omega) only [go_sem]; done) | (intros; trivial)
            · have g13 := s13b h13
              simp -implicitDefEqProofs (disch := omega) only [go_sem, h1, h4, h3, s1, sB, g13]
              repeat' apply And.intro
              all_goals first | assumption | (intro h; rw [h13] at h; cases h; done) | (intro h; rw [h12] at h; cases h; done) | (intro _ h; rw [h13] at h; cases h; done) | (intro _; assumption) | (intro h; refine kill_of ?_ (by first | rfl | simp -implicitDefEqProofs (disch := omega) only [go_sem]); first | exact j0 h | exact j1 h | exact j2 h | exact j3 h | exact j4 h | exact j5 h | exact j6 h | exact j7 h | exact j8 h | exact j9 h | exact j10 h | exact j11 h | exact j12 h | exact j14 h) | (intro h; simp -implicitDefEqProofs (disch := omega) only [go_sem]; done) | (intros; trivial)
        · rintro D hD hd E σ ⟨h1, h4, h3, s1, sB, c13, s13a, s13b, j0, j1, j2, j3, j4, j5, j6, j7, j8, j9, j10, j11, j12, j14⟩
          have d5 : D 5 = true := hd ⟨5, .data⟩ (by simp) rfl
          have q5 := j5 d5
          have d6 : D 6 = true := hd ⟨6, .data⟩ (by simp) rfl
          have q6 := j6 d6
          cases h12 : D 12
          · have h13 : D 13 = false := by
              cases e : D 13 with
              | false => rfl
              | true => rw [c13 e] at h12; cases h12
            simp -implicitDefEqProofs (disch := omega) only [go_sem, h1, h4, h3, s1, sB, q5, q6]
            refine callC_at hown ?_ (h4 := .inr (dn_CL _))
            simp -implicitDefEqProofs (disch := omega) only [go_sem, h1, h4, h3, s1, sB, q5, q6]
            repeat' apply And.intro
            all_goals first | assumption | (intro h; rw [h13] at h; cases h; done) | (intro h; rw [h12] at h; cases h; done) | (intro _ h; rw [h13] at h; cases h; done) | (intro _; assumption) | (intro h; refine kill_of ?_ (by first | rfl | simp -implicitDefEqProofs (disch := omega) only [go_sem]); first | exact j0 h | exact j1 h | exact j2 h | exact j3 h | exact j4 h | exact j5 h | exact j6 h | exact j7 h | exact j8 h | exact j9 h | exact j10 h | exact j11 h | exact j12 h | exact j14 h) | (intro h; simp -implicitDefEqProofs (disch := omega) only [go_sem]; done) | (intros; trivial)
          · cases h13 : D 13
            · have g13 := s13a h12 h13
              simp -implicitDefEqProofs (disch := omega) only [go_sem, h1, h4, h3, s1, sB, q5, q6, g13]
              refine callC_at hown ?_ (h4 := .inr (dn_CL _))
              simp -implicitDefEqProofs (disch := omega) only [go_sem, h1, h4, h3, s1, sB, q5, q6, g13]
              repeat' apply And.intro
              all_goals first | assumption | (intro h; rw [h13] at h; cases h; done) | (intro h; rw [h12] at h; cases h; done) | (intro _ h; rw [h13] at h; cases h; done) | (intro _; assumption) | (intro h; refine kill_of ?_ (by first | rfl | simp -implicitDefEqProofs (disch := omega) only [go_sem]); first | exact j0 h | exact j1 h | exact j2 h | exact j3 h | exact j4 h | exact j5 h | exact j6 h | exact j7 h | exact j8 h | exact j9 h | exact j10 h | exact j11 h | exact j12 h | exact j14 h) | (intro h; simp -implicitDefEqProofs (disch := omega) only [go_sem]; done) | (intros; trivial)
            · have g13 := s13b h13
              simp -implicitDefEqProofs (disch := omega) only [go_sem, h1, h4, h3, s1, sB, q5, q6, g13]
              refine callC_at hown ?_ (h4 := .inr (dn_CL _))
              simp -implicitDefEqProofs (disch := omega) only [go_sem, h1, h4, h3, s1, sB, q5, q6, g13]
              repeat' apply And.intro
              all_goals first | assumption | (intro h; rw [h13] at h; cases h; done) | (intro h; rw [h12] at h; cases h; done) | (intro _ h; rw [h13] at h; cases h; done) | (intro _; assumption) | (intro h; refine kill_of ?_ (by first | rfl | simp -implicitDefEqProofs (disch := omega) only [go_sem]); first | exact j0 h | exact j1 h | exact j2 h | exact j3 h | exact j4 h | exact j5 h | exact j6 h | exact j7 h | exact j8 h | exact j9 h | exact j10 h | exact j11 h | exact j12 h | exact j14 h) | (intro h; simp -implicitDefEqProofs (disch := omega) only [go_sem]; done) | (intros; trivial)
        · rintro D hD hd E σ ⟨h1, h4, h3, s1, sB, c13, s13a, s13b, j0, j1, j2, j3, j4, j5, j6, j7, j8, j9, j10, j11, j12, j14⟩
          have d3 : D 3 = true := hd ⟨3, .data⟩ (by simp) rfl
          have q3 := j3 d3
          have d7 : D 7 = true := hd ⟨7, .data⟩ (by simp) rfl
          have q7 := j7 d7
          cases h12 : D 12
          · have h13 : D 13 = false := by
              cases e : D 13 with
              | false => rfl
              | true => rw [c13 e] at h12; cases h12
            simp -implicitDefEqProofs (disch := omega) only [go_sem, h1, h4, h3, s1, sB, q3, q7]
            refine callC_at hlr ?_ (h4 := .inr hlrdn)
            simp -implicitDefEqProofs (disch := omega) only [go_sem, h1, h4, h3, s1, sB, q3, q7]
            repeat' apply And.intro
            all_goals first | assumption | (intro h; rw [h13] at h; cases h; done) | (intro h; rw [h12] at h; cases h; done) | (intro _ h; rw [h13] at h; cases h; done) | (intro _; assumption) | (intro h; refine kill_of ?_ (by first | rfl | simp -implicitDefEqProofs (disch := omega) only [go_sem]); first | exact j0 h | exact j1 h | exact j2 h | exact j3 h | exact j4 h | exact j5 h | exact j6 h | exact j7 h | exact j8 h | exact j9 h | exact j10 h | exact j11 h | exact j12 h | exact j14 h) | (intro h; simp -implicitDefEqProofs (disch := omega) only [go_sem]; done) | (intros; trivial)
          · cases h13 : D 13
            · have g13 := s13a h12 h13
              simp -implicitDefEqProofs (disch := omega) only [go_sem, h1, h4, h3, s1, sB, q3, q7, g13]
              refine callC_at hlr ?_ (h4 := .inr hlrdn)
              simp -implicitDefEqProofs (disch := omega) only [go_sem, h1, h4, h3, s1, sB, q3, q7, g13]
              repeat' apply And.intro
              all_goals first | assumption | (intro h; rw [h13] at h; cases h; done) | (intro h; rw [h12] at h; cases h; done) | (intro _ h; rw [h13] at h; cases h; done) | (intro _; assumption) | (intro h; refine kill_of ?_ (by first | rfl | simp -implicitDefEqProofs (disch := omega) only [go_sem]); first | exact j0 h | exact j1 h | exact j2 h | exact j3 h | exact j4 h | exact j5 h | exact j6 h | exact j7 h | exact j8 h | exact j9 h | exact j10 h | exact j11 h | exact j12 h | exact j14 h) | (intro h; simp -implicitDefEqProofs (disch := omega) only [go_sem]; done) | (intros; trivial)
            · have g13 := s13b h13
              simp -implicitDefEqProofs (disch := omega) only [go_sem, h1, h4, h3, s1, sB, q3, q7, g13]
              refine callC_at hlr ?_ (h4 := .inr hlrdn)
              simp -implicitDefEqProofs (disch := omega) only [go_sem, h1, h4, h3, s1, sB, q3, q7, g13]
              repeat' apply And.intro
              all_goals first | assumption | (intro h; rw [h13] at h; cases h; done) | (intro h; rw [h12] at h; cases h; done) | (intro _ h; rw [h13] at h; cases h; done) | (intro _; assumption) | (intro h; refine kill_of ?_ (by first | rfl | simp -implicitDefEqProofs (disch := omega) only [go_sem]); first | exact j0 h | exact j1 h | exact j2 h | exact j3 h | exact j4 h | exact j5 h | exact j6 h | exact j7 h | exact j8 h | exact j9 h | exact j10 h | exact j11 h | exact j12 h | exact j14 h) | (intro h; simp -implicitDefEqProofs (disch := omega) only [go_sem]; done) | (intros; trivial)
        · rintro D hD hd E σ ⟨h1, h4, h3, s1, sB, c13, s13a, s13b, j0, j1, j2, j3, j4, j5, j6, j7, j8, j9, j10, j11, j12, j14⟩
          have d8 : D 8 = true := hd ⟨8, .data⟩ (by simp) rfl
          have q8 := j8 d8
          cases h12 : D 12
          · have h13 : D 13 = false := by
              cases e : D 13 with
              | false => rfl
              | true => rw [c13 e] at h12; cases h12
            simp -implicitDefEqProofs (disch := omega) only [go_sem, h1, h4, h3, s1, sB, q8]
            repeat' apply And.intro
            all_goals first | assumption | (intro h; rw [h13] at h; cases h; done) | (intro h; rw [h12] at h; cases h; done) | (intro _ h; rw [h13] at h; cases h; done) | (intro _; assumption) | (intro h; refine kill_of ?_ (by first | rfl | simp -implicitDefEqProofs (disch := omega) only [go_sem]); first | exact j0 h | exact j1 h | exact j2 h | exact j3 h | exact j4 h | exact j5 h | exact j6 h | exact j7 h | exact j8 h | exact j9 h | exact j10 h | exact j11 h | exact j12 h | exact j14 h) | (intro h; simp -implicitDefEqProofs (disch := omega) only [go_sem]; done) | (intros; trivial)
          · cases h13 : D 13
            · have g13 := s13a h12 h13
              simp -implicitDefEqProofs (disch := omega) only [go_sem, h1, h4, h3, s1, sB, q8, g13]
              repeat' apply And.intro
              all_goals first | assumption | (intro h; rw [h13] at h; cases h; done) | (intro h; rw [h12] at h; cases h; done) | (intro _ h; rw [h13] at h; cases h; done) | (intro _; assumption) | (intro h; refine kill_of ?_ (by first | rfl | simp -implicitDefEqProofs (disch := omega) only [go_sem]); first | exact j0 h | exact j1 h | exact j2 h | exact j3 h | exact j4 h | exact j5 h | exact j6 h | exact j7 h | exact j8 h | exact j9 h | exact j10 h | exact j11 h | exact j12 h | exact j14 h) | (intro h; simp -implicitDefEqProofs (disch := omega) only [go_sem]; done) | (intros; trivial)
            · have g13 := s13b h13
              simp -implicitDefEqProofs (disch := omega) only [go_sem, h1, h4, h3, s1, sB, q8, g13]
              repeat' apply And.intro
              all_goals first | assumption | (intro h; rw [h13] at h; cases h; done) | (intro h; rw [h12] at h; cases h; done) | (intro _ h; rw [h13] at h; cases h; done) | (intro _; assumption) | (intro h; refine kill_of ?_ (by first | rfl | simp -implicitDefEqProofs (disch := omega) only [go_sem]); first | exact j0 h | exact j1 h | exact j2 h | exact j3 h | exact j4 h | exact j5 h | exact j6 h | exact j7 h | exact j8 h | exact j9 h | exact j10 h | exact j11 h | exact j12 h | exact j14 h) | (intro h; simp -implicitDefEqProofs (disch := omega) only [go_sem]; done) | (intros; trivial)
        · rintro D hD hd E σ ⟨h1, h4, h3, s1, sB, c13, s13a, s13b, j0, j1, j2, j3, j4, j5, j6, j7, j8, j9, j10, j11, j12, j14⟩
          have d9 : D 9 = true := hd ⟨9, .data⟩ (by simp) rfl
          have q9 := j9 d9
          cases h12 : D 12
          · have h13 : D 13 = false := by
              cases e : D 13 with
              | false => rfl
              | true => rw [c13 e] at h12; cases h12
            simp -implicitDefEqProofs (disch := omega) only [go_sem, h1, h4, h3, s1, sB, q9]
            repeat' apply And.intro
            all_goals first | assumption | (intro h; rw [h13] at h; cases h; done) | (intro h; rw [h12] at h; cases h; done) | (intro _ h; rw [h13] at h; cases h; done) | (intro _; assumption) | (intro h; refine kill_of ?_ (by first | rfl | simp -implicitDefEqProofs (disch := omega) only [go_sem]); first | exact j0 h | exact j1 h | exact j2 h | exact j3 h | exact j4 h | exact j5 h | exact j6 h | exact j7 h | exact j8 h | exact j9 h | exact j10 h | exact j11 h | exact j12 h | exact j14 h) | (intro h; simp -implicitDefEqProofs (disch := omega) only [go_sem]; done) | (intros; trivial)
          · cases h13 : D 13
            · have g13 := s13a h12 h13
              simp -implicitDefEqProofs (disch := omega) only [go_sem, h1, h4, h3, s1, sB, q9, g13]
              repeat' apply And.intro
              all_goals first | assumption | (intro h; rw [h13] at h; cases h; done) | (intro h; rw [h12] at h; cases h; done) | (intro _ h; rw [h13] at h; cases h; done) | (intro _; assumption) | (intro h; refine kill_of ?_ (by first | rfl | simp -implicitDefEqProofs (disch := omega) only [go_sem]); first | exact j0 h | exact j1 h | exact j2 h | exact j3 h | exact j4 h | exact j5 h | exact j6 h | exact j7 h | exact j8 h | exact j9 h | exact j10 h | exact j11 h | exact j12 h | exact j14 h) | (intro h; simp -implicitDefEqProofs (disch := omega) only [go_sem]; done) | (intros; trivial)
            · have g13 := s13b h13
              simp -implicitDefEqProofs (disch := omega) only [go_sem, h1, h4, h3, s1, sB, q9, g13]
              repeat' apply And.intro
              all_goals first | assumption | (intro h; rw [h13] at h; cases h; done) | (intro h; rw [h12] at h; cases h; done) | (intro _ h; rw [h13] at h; cases h; done) | (intro _; assumption) | (intro h; refine kill_of ?_ (by first | rfl | simp -implicitDefEqProofs (disch := omega) only [go_sem]); first | exact j0 h | exact j1 h | exact j2 h | exact j3 h | exact j4 h | exact j5 h | exact j6 h | exact j7 h | exact j8 h | exact j9 h | exact j10 h | exact j11 h | exact j12 h | exact j14 h) | (intro h; simp -implicitDefEqProofs (disch := omega) only [go_sem]; done) | (intros; trivial)
        · rintro D hD hd E σ ⟨h1, h4, h3, s1, sB, c13, s13a, s13b, j0, j1, j2, j3, j4, j5, j6, j7, j8, j9, j10, j11, j12, j14⟩
          have d9 : D 9 = true := hd ⟨9, .data⟩ (by simp) rfl
          have q9 := j9 d9
          cases h12 : D 12
          · have h13 : D 13 = false := by
              cases e : D 13 with
              | false => rfl
              | true => rw [c13 e] at h12; cases h12
            simp -implicitDefEqProofs (disch := omega) only [go_sem, h1, h4, h3, s1, sB, q9]
            repeat' apply And.intro
            all_goals first | assumption | (intro h; rw [h13] at h; cases h; done) | (intro h; rw [h12] at h; cases h; done) | (intro _ h; rw [h13] at h; cases h; done) | (intro _; assumption) | (intro h; refine kill_of ?_ (by first | rfl | simp -implicitDefEqProofs (disch := omega) only [go_sem]); first | exact j0 h | exact j1 h | exact j2 h | exact j3 h | exact j4 h | exact j5 h | exact j6 h | exact j7 h | exact j8 h | exact j9 h | exact j10 h | exact j11 h | exact j12 h | exact j14 h) | (intro h; simp -implicitDefEqProofs (disch := omega) only [go_sem]; done) | (intros; trivial)
          · cases h13 : D 13
            · have g13 := s13a h12 h13
              simp -implicitDefEqProofs (disch := omega) only [go_sem, h1, h4, h3, s1, sB, q9, g13]
              repeat' apply And.intro
              all_goals first | assumption | (intro h; rw [h13] at h; cases h; done) | (intro h; rw [h12] at h; cases h; done) | (intro _ h; rw [h13] at h; cases h; done) | (intro _; assumption) | (intro h; refine kill_of ?_ (by first | rfl | simp -implicitDefEqProofs (disch := omega) only [go_sem]); first | exact j0 h | exact j1 h | exact j2 h | exact j3 h | exact j4 h | exact j5 h | exact j6 h | exact j7 h | exact j8 h | exact j9 h | exact j10 h | exact j11 h | exact j12 h | exact j14 h) | (intro h; simp -implicitDefEqProofs (disch := omega) only [go_sem]; done) | (intros; trivial)
            · have g13 := s13b h13
              simp -implicitDefEqProofs (disch := omega) only [go_sem, h1, h4, h3, s1, sB, q9, g13]
              repeat' apply And.intro
              all_goals first | assumption | (intro h; rw [h13] at h; cases h; done) | (intro h; rw [h12] at h; cases h; done) | (intro _ h; rw [h13] at h; cases h; done) | (intro _; assumption) | (intro h; refine kill_of ?_ (by first | rfl | simp -implicitDefEqProofs (disch := omega) only [go_sem]); first | exact j0 h | exact j1 h | exact j2 h | exact j3 h | exact j4 h | exact j5 h | exact j6 h | exact j7 h | exact j8 h | exact j9 h | exact j10 h | exact j11 h | exact j12 h | exact j14 h) | (intro h; simp -implicitDefEqProofs (disch := omega) only [go_sem]; done) | (intros; trivial)
        · rintro D hD hd E σ ⟨h1, h4, h3, s1, sB, c13, s13a, s13b, j0, j1, j2, j3, j4, j5, j6, j7, j8, j9, j10, j11, j12, j14⟩
          cases h12 : D 12
          · have h13 : D 13 = false := by
              cases e : D 13 with
              | false => rfl
              | true => rw [c13 e] at h12; cases h12
            simp -implicitDefEqProofs (disch := omega) only [go_sem, h1, h4, h3, s1, sB]
            repeat' apply And.intro
            all_goals first | assumption | (intro h; rw [h13] at h; cases h; done) | (intro h; rw [h12] at h; cases h; done) | (intro _ h; rw [h13] at h; cases h; done) | (intro _; assumption) | (intro h; refine kill_of ?_ (by first | rfl | simp -implicitDefEqProofs (disch := omega) only [go_sem]); first | exact j0 h | exact j1 h | exact j2 h | exact j3 h | exact j4 h | exact j5 h | exact j6 h | exact j7 h | exact j8 h | exact j9 h | exact j10 h | exact j11 h | exact j12 h | exact j14 h) | (intro h; simp -implicitDefEqProofs (disch := omega) only [go_sem]; done) | (intros; trivial)
          · rw [show D 12 = D (0 + 1 + 1 + 1 + 1 + 1 + 1 + 1 + 1 + 1 + 1 + 1 + 1) from rfl] at h12; rw [hD] at h12; cases h12
        · rintro D hD hd E σ ⟨h1, h4, h3, s1, sB, c13, s13a, s13b, j0, j1, j2, j3, j4, j5, j6, j7, j8, j9, j10, j11, j12, j14⟩
          have d10 : D 10 = true := hd ⟨10, .data⟩ (by simp) rfl
          have q10 := j10 d10
          have d12 : D 12 = true := hd ⟨12, .data⟩ (by simp) rfl
          have q12 := j12 d12
          cases h12 : D 12
          · rw [d12] at h12; cases h12
          · cases h13 : D 13
            · have g13 := s13a h12 h13
              simp -implicitDefEqProofs (disch := omega) only [go_sem, h1, h4, h3, s1, sB, q10, q12, g13]
              repeat' apply And.intro
              all_goals first | assumption | (intro h; rw [h13] at h; cases h; done) | (intro h; rw [h12] at h; cases h; done) | (intro _ h; rw [h13] at h; cases h; done) | (intro _; assumption) | (intro h; refine kill_of ?_ (by first | rfl | simp -implicitDefEqProofs (disch := omega) only [go_sem]); first | exact j0 h | exact j1 h | exact j2 h | exact j3 h | exact j4 h | exact j5 h | exact j6 h | exact j7 h | exact j8 h | exact j9 h | exact j10 h | exact j11 h | exact j12 h | exact j14 h) | (intro h; simp -implicitDefEqProofs (disch := omega) only [go_sem]; done) | (intros; trivial)
            · rw [show D 13 = D (0 + 1 + 1 + 1 + 1 + 1 + 1 + 1 + 1 + 1 + 1 + 1 + 1 + 1) from rfl] at h13; rw [hD] at h13; cases h13
        · rintro D hD hd E σ ⟨h1, h4, h3, s1, sB, c13, s13a, s13b, j0, j1, j2, j3, j4, j5, j6, j7, j8, j9, j10, j11, j12, j14⟩
          have d11 : D 11 = true := hd ⟨11, .data⟩ (by simp) rfl
          have q11 := j11 d11
          cases h12 : D 12
          · have h13 : D 13 = false := by
              cases e : D 13 with
              | false => rfl
              | true => rw [c13 e] at h12; cases h12
            simp -implicitDefEqProofs (disch := omega) only [go_sem, h1, h4, h3, s1, sB, q11]
            repeat' apply And.intro
            all_goals first | assumption | (intro h; rw [h13] at h; cases h; done) | (intro h; rw [h12] at h; cases h; done) | (intro _ h; rw [h13] at h; cases h; done) | (intro _; assumption) | (intro h; refine kill_of ?_ (by first | rfl | simp -implicitDefEqProofs (disch := omega) only [go_sem]); first | exact j0 h | exact j1 h | exact j2 h | exact j3 h | exact j4 h | exact j5 h | exact j6 h | exact j7 h | exact j8 h | exact j9 h | exact j10 h | exact j11 h | exact j12 h | exact j14 h) | (intro h; simp -implicitDefEqProofs (disch := omega) only [go_sem]; done) | (intros; trivial)
          · cases h13 : D 13
            · have g13 := s13a h12 h13
              simp -implicitDefEqProofs (disch := omega) only [go_sem, h1, h4, h3, s1, sB, q11, g13]
              repeat' apply And.intro
              all_goals first | assumption | (intro h; rw [h13] at h; cases h; done) | (intro h; rw [h12] at h; cases h; done) | (intro _ h; rw [h13] at h; cases h; done) | (intro _; assumption) | (intro h; refine kill_of ?_ (by first | rfl | simp -implicitDefEqProofs (disch := omega) only [go_sem]); first | exact j0 h | exact j1 h | exact j2 h | exact j3 h | exact j4 h | exact j5 h | exact j6 h | exact j7 h | exact j8 h | exact j9 h | exact j10 h | exact j11 h | exact j12 h | exact j14 h) | (intro h; simp -implicitDefEqProofs (disch := omega) only [go_sem]; done) | (intros; trivial)
            · have g13 := s13b h13
              simp -implicitDefEqProofs (disch := omega) only [go_sem, h1, h4, h3, s1, sB, q11, g13]
              repeat' apply And.intro
              all_goals first | assumption | (intro h; rw [h13] at h; cases h; done) | (intro h; rw [h12] at h; cases h; done) | (intro _ h; rw [h13] at h; cases h; done) | (intro _; assumption) | (intro h; refine kill_of ?_ (by first | rfl | simp -implicitDefEqProofs (disch := omega) only [go_sem]); first | exact j0 h | exact j1 h | exact j2 h | exact j3 h | exact j4 h | exact j5 h | exact j6 h | exact j7 h | exact j8 h | exact j9 h | exact j10 h | exact j11 h | exact j12 h | exact j14 h) | (intro h; simp -implicitDefEqProofs (disch := omega) only [go_sem]; done) | (intros; trivial)
      · rintro D E σ hD ⟨h1, h4, h3, s1, sB, c13, s13a, s13b, j0, j1, j2, j3, j4, j5, j6, j7, j8, j9, j10, j11, j12, j14⟩
        have g13 := s13b (hD 13 (by decide))
        have q0 := j0 (hD 0 (by decide))
        have q1 := j1 (hD 1 (by decide))
        have q2 := j2 (hD 2 (by decide))
        have q3 := j3 (hD 3 (by decide))
        have q4 := j4 (hD 4 (by decide))
        have q5 := j5 (hD 5 (by decide))
        have q6 := j6 (hD 6 (by decide))
        have q7 := j7 (hD 7 (by decide))
        have q8 := j8 (hD 8 (by decide))
        have q9 := j9 (hD 9 (by decide))
        have q10 := j10 (hD 10 (by decide))
        have q11 := j11 (hD 11 (by decide))
        have q12 := j12 (hD 12 (by decide))
        have q14 := j14 (hD 14 (by decide))
        simp -implicitDefEqProofs (disch := omega) only [go_sem, h1, h4, h3, s1, sB, g13, q12, hvl]
        have hqt : q.take v = q := List.take_of_length_le (by omega)
        refine againQ_mk (n - 1) (by omega) ⟨v + 1, by omega, ?_⟩
        rw [htk']
        simp -implicitDefEqProofs (disch := omega) only [go_sem, h1, h4, h3, s1, sB, g13, q12, hvl, hqt]
        simp
    · obtain rfl : v = 64 := by omega
      have htk : (rowT key l 0).take 64 = rowT key l 0 := List.take_of_length_le (by rw [rowT_length key l 0 (by omega)]; omega)
      rw [htk] at sB
      have hrl0 := rowT_length key l 0 (by omega)
      simp -implicitDefEqProofs (disch := omega) only [go_sem, h1, h4, h3, s1, sB]
      refine freeze_reg Plain.mono [94371888] ?_
      simp -implicitDefEqProofs (disch := omega) only [go_sem, h1, h4, h3, s1, sB, hrl0]
      have htk2 : (rowT key l 0).take 64 = rowT key l 0 := htk
      refine loopC_mk (fun n E σ => ∃ k : Nat, k + n = 6 ∧ E 3 = RPL (rowT key l k) ∧ E 7 = .own 94372336 1 0 (k + 1) ∧ σ 94372336 = some ⟨36, 1, (rowsT key l (k + 1)).map RPL⟩) 6 ⟨0, by omega, ?_⟩ ?_
      · simp -implicitDefEqProofs (disch := omega) only [go_sem, h1, h4, h3, s1, sB, htk, hrl0]
        try rfl
        try trace_state
      · clear h1 h4 h3 s1 sB hc htk htk2 hrl0 E σ
        rintro n E σ ⟨k, hkn, h3, h7, sR⟩
        have hrl := rowT_length key l k (by omega)
        rw [show 6 - k = n from by omega] at hrl
        have hrk := rowT_mem key hl hn k (by omega)
        have hp64 : 2 ^ n ≤ 64 := by
          have : 2 ^ n ≤ 2 ^ 6 := Nat.pow_le_pow_right (by omega) (by omega)
          simpa using this
        simp -implicitDefEqProofs (disch := omega) only [go_sem, h3, h7, sR]
        refine branch_mk (fun hb => ?_) (fun hb => ?_)
        · obtain ⟨m, rfl⟩ : ∃ m, n = m + 1 := ⟨n - 1, by
            have : n ≠ 0 := fun e => by subst e; simp at hrl; omega
            omega⟩
          have hm2 : 2 ^ (m + 1) = 2 * 2 ^ m := by rw [Nat.pow_succ]; omega
          simp -implicitDefEqProofs (disch := omega) only [go_sem, h3, h7, sR]
          refine loopC_mk (fun n E σ => ∃ v : Nat, v + n = 2 ^ m ∧ E 3 = RPL (rowT key l k) ∧ E 7 = .own 94372336 1 0 (k + 1) ∧ σ 94372336 = some ⟨36, 1, (rowsT key l (k + 1)).map RPL⟩ ∧ E 8 = .own 94371968 2 0 v ∧ E 9 = I ((2 * v : Nat) : Int) ∧ σ 94371968 = some ⟨35, 2, (pairsT ((rowT key l k).take (2 * v))).map RP⟩) (2 ^ m) ⟨0, by omega, ?_⟩ ?_
          · simp -implicitDefEqProofs (disch := omega) only [go_sem, h3, h7, sR]
            exact ⟨rfl, rfl⟩
          · clear h3 h7 sR E σ
            rintro n E σ ⟨v, hv, h3, h7, sR, h8, h9, sP⟩
            simp -implicitDefEqProofs (disch := omega) only [go_sem, h3, h7, sR, h8, h9, sP]
            refine branch_mk (fun hc => ?_) (fun hc => ?_)
            · have t1 := hrk _ (gd_mem (rowT key l k) (2 * v) (by omega))
              have t2 := hrk _ (gd_mem (rowT key l k) (2 * v + 1) (by omega))
              have hpt := pairsT_take (rowT key l k) v (by omega)
              have hpl : (pairsT ((rowT key l k).take (2 * v))).length = v := by rw [pairsT_length, List.length_take]; omega
              have hj := joinR_at (t1.mono (C := 1000000000000000) (by omega)) (t2.mono (C := 1000000000000000) (by omega))
              have e2 : ((2 * v : Nat) : Int) + 1 = ((2 * v + 1 : Nat) : Int) := by omega
              have e3 : ((2 * v : Nat) : Int) + 2 = ((2 * (v + 1) : Nat) : Int) := by omega
              generalize pairsT ((rowT key l k).take (2 * v)) = q at *
              generalize ha : gd (rowT key l k) (2 * v) = a at *
              generalize hbb : gd (rowT key l k) (2 * v + 1) = b at *
              generalize joinT a b = c at *
              obtain ⟨cs, cd⟩ := c
              have hqt : q.take v = q := List.take_of_length_le (by omega)
              simp -implicitDefEqProofs (disch := omega) only [go_sem, h3, h7, sR, h8, h9, sP, e2, ha, hbb]
              refine callC_at hj ?_ (h4 := .inr (dn_RP _))
              simp -implicitDefEqProofs (disch := omega) only [go_sem, h3, h7, sR, h8, h9, sP, e2, e3, ha, hbb, hpl, hqt]
              refine againQ_mk (n - 1) (by omega) ⟨v + 1, by omega, ?_⟩
              rw [hpt]
              simp -implicitDefEqProofs (disch := omega) only [go_sem, h3, h7, sR, h8, h9, sP, e2, e3, ha, hbb, hpl, hqt]
            · obtain rfl : v = 2 ^ m := by omega
              have hall : pairsT ((rowT key l k).take (2 * 2 ^ m)) = rowT key l (k + 1) := by rw [List.take_of_length_le (by omega)]; rfl
              have hnl : (rowT key l (k + 1)).length = 2 ^ m := by rw [rowT_length key l (k + 1) (by omega)]; congr 1; omega
              have hntk : (rowT key l (k + 1)).take (2 ^ m) = rowT key l (k + 1) := List.take_of_length_le (by omega)
              have hrs : rowsT key l (k + 1 + 1) = rowsT key l (k + 1) ++ [rowT key l (k + 1)] := by unfold rowsT; rw [List.range_succ, List.map_append]; rfl
              have hrsl : (rowsT key l (k + 1)).length = k + 1 := by simp [rowsT]
              rw [hall] at sP
              simp -implicitDefEqProofs (disch := omega) only [go_sem, h3, h7, sR, h8, h9, sP]
              refine freeze_reg Plain.mono [94371968] ?_
              simp -implicitDefEqProofs (disch := omega) only [go_sem, h3, h7, sR, h8, h9, sP, hnl, hntk, hrsl]
              refine againQ_mk m (by omega) ⟨k + 1, by omega, ?_⟩
              rw [hrs]
              simp -implicitDefEqProofs (disch := omega) only [go_sem, h3, h7, sR, h8, h9, sP, hnl, hntk, hrsl]
        · obtain rfl : n = 0 := by
            rcases n with _ | n
            · rfl
            · exact absurd (show (1 : Int) < ((rowT key l k).length : Int) by rw [hrl, Nat.pow_succ]; have := Nat.two_pow_pos n; omega) hb
          obtain rfl : k = 6 := by omega
          have hrsl : (rowsT key l 7).length = 7 := by simp [rowsT]
          simp -implicitDefEqProofs (disch := omega) only [go_sem, h3, h7, sR, hrsl, Tryd.results44]
          trace_state
end Go.Proofs.YtgbcfpcjljhijaaDoor
set_option maxRecDepth 100000
namespace Go.Proofs.YtgbcfpcjljhijaaDoor
open Go.Vai Go Go.Proofs
open Nat (reduceEqDiff reduceMul reduceAdd reduceDiv reduceLeDiff)
open Int (reduceToNat reduceNe reduceEq reduceLT reduceLE)
theorem rowsT_gd (key : ByteArray) (l : List Ch) (k n : Nat) (h : k < n) : gd (rowsT key l n) k = rowT key l k := by
  unfold rowsT gd; simp [h]
theorem rowsT_length (key : ByteArray) (l : List Ch) (n : Nat) : (rowsT key l n).length = n := by simp [rowsT]
theorem sealROK_ev (key : ByteArray) (l : List Ch) (hl : l.length ≤ 9223372036854775807) (h : ledOK key l = true) : Ev Tryd.prog 16 [LP key l] (.tup [RP (sealT key l), I 0]) := by
  have h' := h
  simp only [ledOK, Bool.and_eq_true, decide_eq_true_eq] at h'
  obtain ⟨hk, hc⟩ := h'
  obtain ⟨hn, hok⟩ := chsOK_iff l hc
  refine ev_of Tryd.func16 rfl (by kernel_rfl) mo (Nat.le_of_ble_eq_true rfl) ?_
  simp -implicitDefEqProofs (disch := omega) only [go_sem, Tryd.ntmps16]
  have hv := validR_ev key l hl
  rw [show (decide (key.size = 32) && chsOK l) = true from h] at hv
  refine callC_at hv ?_
  simp -implicitDefEqProofs (disch := omega) only [go_sem]
  refine callC_at (tree_ev key l (by omega) hok hn) ?_
  have h7 := rowsT_length key l 7
  have h6 := rowsT_gd key l 6 7 (by omega)
  have hrl := rowT_length key l 6 (by omega)
  have hs : gd (rowT key l 6) 0 = sealT key l := rfl
  have ht6 : ((((rowsT key l 7).length : Int)) - 1).toNat = 6 := by omega
  simp -implicitDefEqProofs (disch := omega) only [go_sem, ht6, h6]
  have e6 : (7 - 1 : Int) = 6 := rfl
  simp -implicitDefEqProofs (disch := omega) only [go_sem, h7, ht6, h6, hs, hrl, e6, Tryd.results16]
theorem sealRBad_ev (key : ByteArray) (l : List Ch) (hl : l.length ≤ 9223372036854775807) (h : ledOK key l = false) : Ev Tryd.prog 16 [LP key l] (.tup [RP ([], ⟨#[]⟩), I 400]) := by
  refine Ev.resL (rs := [.agg [.v (.slice none 0 0), Str ByteArray.empty], I 400]) ?_ ⟨asIf_agg ⟨asIf_nil 1, asIf_refl _, trivial⟩, asIf_refl _, trivial⟩
  refine ev_of Tryd.func16 rfl (by kernel_rfl) mo (Nat.le_of_ble_eq_true rfl) ?_
  simp -implicitDefEqProofs (disch := omega) only [go_sem, Tryd.ntmps16]
  have hv := validR_ev key l hl
  rw [show (decide (key.size = 32) && chsOK l) = false from h] at hv
  refine callC_at hv ?_
  simp -implicitDefEqProofs (disch := omega) only [go_sem]
  simp -implicitDefEqProofs (disch := omega) only [go_sem, Tryd.results16]
theorem tmod2 (x : Nat) : ((x : Int)).tmod 2 = ((x % 2 : Nat) : Int) := by rw [Int.tmod_eq_emod_of_nonneg (by omega)]; omega
theorem tdiv2 (x : Nat) : ((x : Int)).tdiv 2 = ((x / 2 : Nat) : Int) := by rw [Int.tdiv_eq_ediv_of_nonneg (by omega)]; omega
set_option maxHeartbeats 2000000 in
theorem accROK_ev (key : ByteArray) (l : List Ch) (h : Nat) (hl : l.length ≤ 9223372036854775807) (hled : ledOK key l = true) (h63 : h < 64) : Ev Tryd.prog 27 [LP key l, I h] (.tup [AP (ownA key l h), I 0]) := by
  have h' := hled
  simp only [ledOK, Bool.and_eq_true, decide_eq_true_eq] at h'
  obtain ⟨hk, hc⟩ := h'
  obtain ⟨hn, hok⟩ := chsOK_iff l hc
  refine ev_ofB [5, 13] Tryd.func27 rfl (by kernel_rfl) mo (Nat.le_of_ble_eq_true rfl) ?_
  simp -implicitDefEqProofs (disch := omega) only [go_sem, Tryd.ntmps27]
  have hv := validR_ev key l hl
  rw [show (decide (key.size = 32) && chsOK l) = true from hled] at hv
  refine callC_at hv ?_
  simp -implicitDefEqProofs (disch := omega) only [go_sem]
  have hw := inR_ev h 0 63
  rw [show inF h 0 63 = true from by simp [inF]; omega] at hw
  refine callC_at hw ?_
  simp -implicitDefEqProofs (disch := omega) only [go_sem]
  refine callC_at (ownR_ev l h (by omega)) ?_ (h4 := .inr (dn_CL _))
  simp -implicitDefEqProofs (disch := omega) only [go_sem]
  refine callC_at (saltR_ev key h (by omega) (by omega) (by omega)) ?_
  simp -implicitDefEqProofs (disch := omega) only [go_sem]
  refine callC_at (tree_ev key l (by omega) hok hn) ?_
  simp -implicitDefEqProofs (disch := omega) only [go_sem]
  generalize hof : ofF l h = own at *
  generalize hsa : saltF key h = salt at *
  refine nilOwn_C 58720352 58720353 0 3 35 2 (k := ⟨51, 4, [.agg [I h, CL own, Str salt, .v (.slice none 0 0)]]⟩) (el := .agg [I h, CL own, Str salt, .v (.slice none 0 0)]) (by simp -implicitDefEqProofs (disch := omega) only [go_sem]) (by decide) rfl rfl (by simp) (by simp -implicitDefEqProofs (disch := omega) only [go_sem]) rfl ?_
  refine reg_mk Plain.mono ?_
  simp -implicitDefEqProofs (disch := omega) only [go_sem]
  refine loopC_mk (fun n E σ => ∃ k : Nat, k + n = 6 ∧ E 4 = .ptr 58720320 4 0 0 ∧ E 6 = .ptr 58720352 4 0 0 ∧ E 7 = RPLL (rowsT key l 7) ∧ E 8 = I ((h / 2 ^ k : Nat) : Int) ∧ E 9 = I k ∧ σ 58720320 = some ⟨51, 4, [.agg [I 0, .v (.slice none 0 0), Str ByteArray.empty, .v (.slice none 0 0)]]⟩ ∧ σ 58720352 = some ⟨51, 4, [.agg [I h, CL own, Str salt, .own 58720353 2 0 (pathN key l h k).length]]⟩ ∧ σ 58720353 = some ⟨35, 2, (pathN key l h k).map RP⟩) 6 ⟨0, by omega, ?_⟩ ?_
  · simp -implicitDefEqProofs (disch := omega) only [go_sem]
    simp [pathN]
    try rfl
  · rintro n E σ ⟨k, hkn, h4, h6, h7, h8, h9, s4, s6, sP⟩
    have hpl : (pathN key l h k).length ≤ 6 := by simp [pathN]; omega
    simp -implicitDefEqProofs (disch := omega) only [go_sem, h4, h6, h7, h8, h9, s4, s6, sP]
    refine branch_mk (fun hb => ?_) (fun hb => ?_)
    · have hk6 : k < 6 := by omega
      have hrl := rowT_length key l k (by omega)
      have hrg := rowsT_gd key l k 7 (by omega)
      have hr7 := rowsT_length key l 7
      have hsl := (sib_lt h63 hk6).1
      have hdl : h / 2 ^ k ≤ h := Nat.div_le_self _ _
      have hdd : h / 2 ^ k / 2 = h / 2 ^ (k + 1) := by rw [Nat.pow_succ, Nat.div_div_eq_div_mul]
      have hpn := pathN_succ key l h k hk6
      have hp64 : 2 ^ (6 - k) ≤ 64 := by
        have : 2 ^ (6 - k) ≤ 2 ^ 6 := Nat.pow_le_pow_right (by omega) (by omega)
        simpa using this
      generalize hx : h / 2 ^ k = x at *
      have htm := tmod2 x
      have htd := tdiv2 x
      rw [hdd] at htd
      generalize hx1 : h / 2 ^ (k + 1) = x1 at *
      have hpt : (pathN key l h k).take (pathN key l h k).length = pathN key l h k := List.take_length
      simp -implicitDefEqProofs (disch := omega) only [go_sem, h4, h6, h7, h8, h9, s4, s6, sP, htm]
      refine branch_mk (fun he => ?_) (fun he => ?_)
      · have hsb : sibN x = x + 1 := if_pos (by omega)
        have e1 : (x : Int) + 1 = ((x + 1 : Nat) : Int) := by omega
        rw [hsb] at hsl hpn
        simp -implicitDefEqProofs (disch := omega) only [go_sem, h4, h6, h7, h8, h9, s4, s6, sP, hr7, hrg, hrl, e1, hpt, htd]
        refine againQ_mk (n - 1) (by omega) ⟨k + 1, by omega, ?_⟩
        rw [hpn, hx1]
        simp -implicitDefEqProofs (disch := omega) only [go_sem, h4, h6, h7, h8, h9, s4, s6, sP, hr7, hrg, hrl, e1, hpt, htd, and_self]
        simp
      · have hsb : sibN x = x - 1 := if_neg (by omega)
        have e1 : (x : Int) - 1 = ((x - 1 : Nat) : Int) := by omega
        rw [hsb] at hsl hpn
        simp -implicitDefEqProofs (disch := omega) only [go_sem, h4, h6, h7, h8, h9, s4, s6, sP, hr7, hrg, hrl, e1, hpt, htd]
        refine againQ_mk (n - 1) (by omega) ⟨k + 1, by omega, ?_⟩
        rw [hpn, hx1]
        simp -implicitDefEqProofs (disch := omega) only [go_sem, h4, h6, h7, h8, h9, s4, s6, sP, hr7, hrg, hrl, e1, hpt, htd, and_self]
        simp
    · obtain rfl : k = 6 := by omega
      have hpp : pathN key l h 6 = pathT key l h := rfl
      rw [hpp] at s6 sP
      simp -implicitDefEqProofs (disch := omega) only [go_sem, h4, h6, h7, h8, h9, s4, s6, sP]
      refine freeze_reg Plain.mono [58720352, 58720353] ?_
      simp -implicitDefEqProofs (disch := omega) only [go_sem, h4, h6, s4, s6, sP, List.take_length]
      simp -implicitDefEqProofs (disch := omega) only [go_sem, h4, h6, s4, s6, sP, List.take_length, Tryd.results27]
      rw [← hof, ← hsa]; rfl
theorem accRBad_ev (key : ByteArray) (l : List Ch) (h : Int) (hl : l.length ≤ 9223372036854775807) (hled : (ledOK key l && inF h 0 63) = false) : Ev Tryd.prog 27 [LP key l, I h] (.tup [AP ⟨0, [], ⟨#[]⟩, []⟩, I 400]) := by
  refine Ev.resL (rs := [.agg [I 0, .v (.slice none 0 0), Str ByteArray.empty, .v (.slice none 0 0)], I 400]) ?_ ⟨asIf_agg ⟨asIf_refl _, asIf_nil 5, asIf_refl _, asIf_nil 2, trivial⟩, asIf_refl _, trivial⟩
  refine ev_ofB [5, 13] Tryd.func27 rfl (by kernel_rfl) mo (Nat.le_of_ble_eq_true rfl) ?_
  simp -implicitDefEqProofs (disch := omega) only [go_sem, Tryd.ntmps27]
  have hv := validR_ev key l hl
  rw [show (decide (key.size = 32) && chsOK l) = ledOK key l from rfl] at hv
  refine callC_at hv ?_
  cases hb : ledOK key l
  · simp -implicitDefEqProofs (disch := omega) only [go_sem]
    simp -implicitDefEqProofs (disch := omega) only [go_sem, Tryd.results27]
  · rw [hb, Bool.true_and] at hled
    have hw := inR_ev h 0 63
    rw [hled] at hw
    simp -implicitDefEqProofs (disch := omega) only [go_sem]
    refine callC_at hw ?_
    simp -implicitDefEqProofs (disch := omega) only [go_sem]
    simp -implicitDefEqProofs (disch := omega) only [go_sem, Tryd.results27]
end Go.Proofs.YtgbcfpcjljhijaaDoor
set_option maxRecDepth 100000
namespace Go.Proofs.YtgbcfpcjljhijaaDoor
open Go.Vai Go Go.Proofs
open Nat (reduceEqDiff reduceMul reduceAdd reduceDiv reduceLeDiff)
open Int (reduceToNat reduceNe reduceEq reduceLT reduceLE)
theorem totOK_iff (t : Tot) : totOK t = true ↔ t.1.length = 8 ∧ t.2.size = 32 ∧ ∀ i, i < t.1.length → inF (gd t.1 i) (-1000000000000) 1000000000000 = true := by
  simp only [totOK, Bool.and_eq_true, decide_eq_true_eq, and_assoc, inF]
  constructor
  · rintro ⟨h1, h2, h3⟩; exact ⟨h1, h2, fun i hi => h3 _ (gd_mem _ i hi)⟩
  · rintro ⟨h1, h2, h3⟩
    refine ⟨h1, h2, fun n hn => ?_⟩
    obtain ⟨i, hi, rfl⟩ := List.mem_iff_getElem.1 hn
    rw [← gd_get _ i hi]; exact h3 i hi
theorem accOK_parts (a : Acc) : accOK a = true ↔ inF a.h 0 63 = true ∧ chsOK a.l = true ∧ a.s.size = 32 ∧ a.p.length = 6 ∧ (∀ i, i < a.l.length → (gd a.l i).h = a.h) ∧ ∀ i, i < a.p.length → totOK (gd a.p i) = true := by
  simp only [accOK, Bool.and_eq_true, decide_eq_true_eq]
  constructor
  · rintro ⟨⟨⟨⟨⟨h1, h2⟩, h3⟩, h4⟩, h5⟩, h6⟩
    exact ⟨h1, h2, h4, h5, fun i hi => h3 _ (gd_mem _ i hi), fun i hi => h6 _ (gd_mem _ i hi)⟩
  · rintro ⟨h1, h2, h4, h5, h3, h6⟩
    refine ⟨⟨⟨⟨⟨h1, h2⟩, fun c hc => ?_⟩, h4⟩, h5⟩, fun t ht => ?_⟩
    · obtain ⟨i, hi, rfl⟩ := List.mem_iff_getElem.1 hc
      rw [← gd_get _ i hi]; exact h3 i hi
    · obtain ⟨i, hi, rfl⟩ := List.mem_iff_getElem.1 ht
      rw [← gd_get _ i hi]; exact h6 i hi
theorem accOK_no {a : Acc} (h : ¬ (inF a.h 0 63 = true ∧ chsOK a.l = true ∧ a.s.size = 32 ∧ a.p.length = 6 ∧ (∀ i, i < a.l.length → (gd a.l i).h = a.h) ∧ ∀ i, i < a.p.length → totOK (gd a.p i) = true)) : accOK a = false := by
  rw [← accOK_parts] at h; simpa using h
set_option maxHeartbeats 1000000 in
theorem formed_ev (a : Acc) (hl : a.l.length ≤ 9223372036854775807) (hp : a.p.length ≤ 9223372036854775807) (hpl : ∀ t ∈ a.p, t.1.length ≤ 9223372036854775807) : Ev Tryd.prog 61 [AP a] (B (accOK a)) := by
  refine ev_of Tryd.func61 rfl (by kernel_rfl) mo (Nat.le_of_ble_eq_true rfl) ?_
  simp -implicitDefEqProofs (disch := omega) only [go_sem, Tryd.ntmps61]
  refine callC_at (inR_ev a.h 0 63) ?_
  cases hin : inF a.h 0 63
  · simp -implicitDefEqProofs (disch := omega) only [go_sem, Tryd.results61]
    rw [accOK_no (by rw [hin]; simp)]
  simp -implicitDefEqProofs (disch := omega) only [go_sem]
  refine callC_at (chargesR_ev a.l hl) ?_
  cases hcs : chsOK a.l
  · simp -implicitDefEqProofs (disch := omega) only [go_sem, Tryd.results61]
    rw [accOK_no (by rw [hcs]; simp)]
  obtain ⟨hn, hok⟩ := chsOK_iff _ hcs
  simp -implicitDefEqProofs (disch := omega) only [go_sem]
  refine branch_mk (fun h32 => ?_) (fun h32 => ?_)
  · simp -implicitDefEqProofs (disch := omega) only [go_sem, Tryd.results61]
    rw [accOK_no (by intro h; omega)]
  simp -implicitDefEqProofs (disch := omega) only [go_sem]
  refine branch_mk (fun h6 => ?_) (fun h6 => ?_)
  · simp -implicitDefEqProofs (disch := omega) only [go_sem, Tryd.results61]
    rw [accOK_no (by intro h; omega)]
  simp -implicitDefEqProofs (disch := omega) only [go_sem]
  refine loopC_mk (fun n E σ => ∃ v : Nat, v + n = a.l.length ∧ E 1 = .ptr 130023440 4 0 0 ∧ E 3 = I v ∧ σ 130023440 = some ⟨51, 4, [AP a]⟩ ∧ ∀ i, i < v → (gd a.l i).h = a.h) a.l.length ⟨0, by omega, ?_⟩ ?_
  · simp -implicitDefEqProofs (disch := omega) only [go_sem]
    simp
  rintro n E σ ⟨v, hv, e1, e3, s1, hall⟩
  simp -implicitDefEqProofs (disch := omega) only [go_sem, e1, e3, s1]
  refine branch_mk (fun hc => ?_) (fun hc => ?_)
  · simp -implicitDefEqProofs (disch := omega) only [go_sem, e1, e3, s1]
    refine branch_mk (fun hd => ?_) (fun hd => ?_)
    · simp -implicitDefEqProofs (disch := omega) only [go_sem, Tryd.results61]
      rw [accOK_no (by intro h; exact hd (h.2.2.2.2.1 v (by omega)))]
    · simp -implicitDefEqProofs (disch := omega) only [go_sem, e1, e3, s1]
      refine againQ_mk (n - 1) (by omega) ⟨v + 1, by omega, ?_⟩
      simp -implicitDefEqProofs (disch := omega) only [go_sem, e1, e3, s1]
      refine ⟨by simp, fun i hi => ?_⟩
      by_cases e : i = v
      · subst e; simpa using hd
      · exact hall i (by omega)
  · obtain rfl : v = a.l.length := by omega
    simp -implicitDefEqProofs (disch := omega) only [go_sem, e1, e3, s1]
    refine loopC_mk (fun n E σ => ∃ w : Nat, w + n = a.p.length ∧ E 1 = .ptr 130023440 4 0 0 ∧ E 4 = I w ∧ σ 130023440 = some ⟨51, 4, [AP a]⟩ ∧ ∀ i, i < w → totOK (gd a.p i) = true) a.p.length ⟨0, by omega, ?_⟩ ?_
    · simp -implicitDefEqProofs (disch := omega) only [go_sem, e1, e3, s1]
      simp
    clear e1 e3 s1 hc E σ
    rintro n E σ ⟨w, hw, e1, e4, s1, hallp⟩
    simp -implicitDefEqProofs (disch := omega) only [go_sem, e1, e4, s1]
    refine branch_mk (fun hc => ?_) (fun hc => ?_)
    · have hno : totOK (gd a.p w) = false → accOK a = false := fun hf => accOK_no (by
        intro h
        have := h.2.2.2.2.2 w (by omega)
        rw [hf] at this; cases this)
      have htl := hpl _ (gd_mem a.p w (by omega))
      have hno2 : ¬ ((gd a.p w).1.length = 8 ∧ (gd a.p w).2.size = 32 ∧ ∀ i, i < (gd a.p w).1.length → inF (gd (gd a.p w).1 i) (-1000000000000) 1000000000000 = true) → accOK a = false := fun hf => hno (by rw [← totOK_iff] at hf; simpa using hf)
      generalize hga : gd a.p w = t at *
      simp -implicitDefEqProofs (disch := omega) only [go_sem, e1, e4, s1, hga]
      refine branch_mk (fun h8 => ?_) (fun h8 => ?_)
      · simp -implicitDefEqProofs (disch := omega) only [go_sem, Tryd.results61]
        rw [hno2 (by intro h; omega)]
      simp -implicitDefEqProofs (disch := omega) only [go_sem, e1, e4, s1, hga]
      refine branch_mk (fun hd => ?_) (fun hd => ?_)
      · simp -implicitDefEqProofs (disch := omega) only [go_sem, Tryd.results61]
        rw [hno2 (by intro h; omega)]
      simp -implicitDefEqProofs (disch := omega) only [go_sem, e1, e4, s1, hga]
      refine loopC_mk (fun n E σ => ∃ u : Nat, u + n = t.1.length ∧ E 1 = .ptr 130023440 4 0 0 ∧ E 4 = I w ∧ E 5 = I u ∧ σ 130023440 = some ⟨51, 4, [AP a]⟩ ∧ ∀ i, i < u → inF (gd t.1 i) (-1000000000000) 1000000000000 = true) t.1.length ⟨0, by omega, ?_⟩ ?_
      · simp -implicitDefEqProofs (disch := omega) only [go_sem, e1, e4, s1, hga]
        simp
      clear e1 e4 s1 E σ
      rintro m E σ ⟨u, hu, e1, e4, e5, s1, hallu⟩
      simp -implicitDefEqProofs (disch := omega) only [go_sem, e1, e4, e5, s1, hga]
      refine branch_mk (fun hcu => ?_) (fun hcu => ?_)
      · simp -implicitDefEqProofs (disch := omega) only [go_sem, e1, e4, e5, s1, hga]
        refine callC_at (inR_ev (gd t.1 u) (-1000000000000) 1000000000000) ?_
        simp -implicitDefEqProofs (disch := omega) only [go_sem, e1, e4, e5, s1, hga]
        refine branch_mk (fun hz => ?_) (fun hz => ?_)
        · simp -implicitDefEqProofs (disch := omega) only [go_sem, Tryd.results61]
          rw [hno2 (by intro h; have := h.2.2 u (by omega); rw [this] at hz; cases hz)]
        · simp -implicitDefEqProofs (disch := omega) only [go_sem, e1, e4, e5, s1, hga]
          refine againQ_mk (m - 1) (by omega) ⟨u + 1, by omega, ?_⟩
          simp -implicitDefEqProofs (disch := omega) only [go_sem, e1, e4, e5, s1, hga]
          refine ⟨by simp, fun i hi => ?_⟩
          by_cases e : i = u
          · subst e; simpa using hz
          · exact hallu i (by omega)
      · simp -implicitDefEqProofs (disch := omega) only [go_sem, e1, e4, e5, s1, hga]
        refine againQ_mk (n - 1) (by omega) ⟨w + 1, by omega, ?_⟩
        simp -implicitDefEqProofs (disch := omega) only [go_sem, e1, e4, e5, s1, hga]
        refine ⟨by simp, fun i hi => ?_⟩
        by_cases e : i = w
        · subst e
          rw [hga, totOK_iff]
          exact ⟨by omega, by omega, fun i hi => hallu i (by omega)⟩
        · exact hallp i (by omega)
    · simp -implicitDefEqProofs (disch := omega) only [go_sem, Tryd.results61]
      rw [(accOK_parts a).2 ⟨hin, hcs, by omega, by omega, fun i hi => hall i hi, fun i hi => hallp i (by omega)⟩]
end Go.Proofs.YtgbcfpcjljhijaaDoor
set_option maxRecDepth 100000
namespace Go.Proofs.YtgbcfpcjljhijaaDoor
open Go.Vai Go Go.Proofs
open Nat (reduceEqDiff reduceMul reduceAdd reduceDiv reduceLeDiff)
open Int (reduceToNat reduceNe reduceEq reduceLT reduceLE)
set_option maxHeartbeats 2000000 in
theorem walkR_ev (a : Acc) (ha : accOK a = true) : Ev Tryd.prog 62 [AP a] (.tup [RP (walkT a.h.toNat a.p (leafT a.s a.l)), SLs (leafH a.s a.l ++ walkH a.h.toNat a.p (leafT a.s a.l))]) := by
  obtain ⟨hin, ⟨hn, hok⟩, hown, h32, h6, htot⟩ := accOK_iff ha
  refine ev_sl (r := .tup [RP (walkT a.h.toNat a.p (leafT a.s a.l)), .new 9 1 ((leafH a.s a.l ++ walkH a.h.toNat a.p (leafT a.s a.l)).map Str)]) ?_ _
  refine ev_of Tryd.func62 rfl (by kernel_rfl) mo (Nat.le_of_ble_eq_true rfl) ?_
  simp -implicitDefEqProofs (disch := omega) only [go_sem, Tryd.ntmps62]
  refine callC_at (leafR_tt a.s a.l h32 hok hn) ?_
  have hlf := leafT_ok a.s a.l hok hn
  have hlH : (leafH a.s a.l).length = 3 := rfl
  generalize leafH a.s a.l = H0 at *
  generalize leafT a.s a.l = lf at *
  obtain ⟨k, hk⟩ : ∃ k : Nat, a.h = k := ⟨a.h.toNat, by omega⟩
  have hk63 : k < 64 := by omega
  have hkt : a.h.toNat = k := by omega
  rw [hkt]
  simp -implicitDefEqProofs (disch := omega) only [go_sem, hk]
  refine loopC_mk (fun n E σ => ∃ (v : Nat) (u : Tot) (hh : List ByteArray), v + n = 6 ∧ TotB (120000000000 + 1000000000000 * v) u ∧ hh.length = 3 + v ∧ walkT k a.p lf = walkT (k / 2 ^ v) (a.p.drop v) u ∧ H0 ++ walkH k a.p lf = hh ++ walkH (k / 2 ^ v) (a.p.drop v) u ∧ E 1 = .ptr 132120592 4 0 0 ∧ E 2 = .ptr 132120608 2 0 0 ∧ E 4 = .ptr 132120640 2 0 0 ∧ E 5 = .own 132120785 1 0 hh.length ∧ E 6 = I ((k / 2 ^ v : Nat) : Int) ∧ E 7 = I v ∧ σ 132120592 = some ⟨51, 4, [AP a]⟩ ∧ σ 132120608 = some ⟨35, 2, [.agg [.v (.slice none 0 0), Str ByteArray.empty]]⟩ ∧ σ 132120640 = some ⟨35, 2, [RP u]⟩ ∧ σ 132120785 = some ⟨9, 1, hh.map Str⟩) 6 ⟨0, lf, H0, by omega, hlf.mono (by omega), by omega, by simp, by simp, ?_⟩ ?_
  · simp -implicitDefEqProofs (disch := omega) only [go_sem, hk, hlH]
    simp [hk]
    try trace_state
  · rintro n E σ ⟨v, u, hh, hv, hu, hhl, hwk, hwh, h1, h2, h4, h5, h6', h7, s1, s2, s4, sH⟩
    simp -implicitDefEqProofs (disch := omega) only [go_sem, h1, h2, h4, h5, h6', h7, s1, s2, s4, sH]
    refine branch_mk (fun hc => ?_) (fun hc => ?_)
    · have hv6 : v < 6 := by omega
      have hg := htot _ (gd_mem a.p v (by omega))
      have hgv := List.drop_eq_getElem_cons (show v < a.p.length by omega)
      rw [← gd_get a.p v (by omega)] at hgv
      rw [hgv, walkT] at hwk
      rw [hgv, walkH] at hwh
      have hdd : k / 2 ^ v / 2 = k / 2 ^ (v + 1) := by rw [Nat.pow_succ, Nat.div_div_eq_div_mul]
      rw [hdd] at hwk hwh
      have hst := step_ok (h := k / 2 ^ v) hg hu (by omega)
      have hdl : k / 2 ^ v ≤ k := Nat.div_le_self _ _
      generalize hx : k / 2 ^ v = x at *
      have htm := tmod2 x
      have htd := tdiv2 x
      rw [hdd] at htd
      have hdl2 : k / 2 ^ (v + 1) ≤ k := Nat.div_le_self _ _
      generalize hx1 : k / 2 ^ (v + 1) = x1 at *
      generalize hga : gd a.p v = g at *
      have hcg := codeR_at hg (by omega)
      have hcu := codeR_at hu (by omega)
      have hzg := codeF_size hg
      have hzu := codeF_size hu
      have hj1 := joinR_at (hg.mono (C := 1000000000000000) (by omega)) (hu.mono (C := 1000000000000000) (by omega))
      have hj2 := joinR_at (hu.mono (C := 1000000000000000) (by omega)) (hg.mono (C := 1000000000000000) (by omega))
      have e1 : (⟨#[1]⟩ : ByteArray) = z1 := rfl
      have es1 : z1.size = 1 := rfl
      have hz1 : ∀ a : ByteArray, (z1 ++ a).size = 1 + a.size := fun a => ByteArray.size_append
      have hht : hh.take hh.length = hh := List.take_length
      simp -implicitDefEqProofs (disch := omega) only [go_sem, h1, h2, h4, h5, h6', h7, s1, s2, s4, sH, htm]
      refine branch_mk (fun he => ?_) (fun he => ?_)
      · have hx2 : ¬ x % 2 = 1 := by omega
        rw [show liftT x g u = joinT u g from if_neg hx2] at hwk hwh hst
        have hlb : liftB x g u = z1 ++ codeF u.1 u.2 ++ codeF g.1 g.2 := by rw [ba_assoc]; exact if_neg hx2
        simp -implicitDefEqProofs (disch := omega) only [go_sem, h1, h2, h4, h5, h6', h7, s1, s2, s4, sH, hga]
        refine callC_at hcu ?_
        simp -implicitDefEqProofs (disch := omega) only [go_sem, h1, h2, h4, h5, h6', h7, s1, s2, s4, sH, hga, e1, es1, hz1]
        refine callC_at hcg ?_
        rw [hlb] at hwh
        generalize codeF u.1 u.2 = cu at *
        generalize codeF g.1 g.2 = cg at *
        simp -implicitDefEqProofs (disch := omega) only [go_sem, h1, h2, h4, h5, h6', h7, s1, s2, s4, sH, hga, e1, es1, hz1, hht]
        generalize z1 ++ cu ++ cg = hb at *
        refine callC_at hj2 ?_ (h4 := .inr (dn_RP _))
        simp -implicitDefEqProofs (disch := omega) only [go_sem, h1, h2, h4, h5, h6', h7, s1, s2, s4, sH, hga, htd, and_self]
        refine againQ_mk (n - 1) (by omega) ⟨v + 1, joinT u g, hh ++ [hb], by omega, hst.mono (by push_cast; omega), by simp; omega, by rw [hx1]; exact hwk, by rw [hx1, hwh]; simp, ?_⟩
        simp -implicitDefEqProofs (disch := omega) only [go_sem, h1, h2, h4, h5, h6', h7, s1, s2, s4, sH, hga, htd, and_self, hx1]
        simp
      · have hx2 : x % 2 = 1 := by omega
        rw [show liftT x g u = joinT g u from if_pos hx2] at hwk hwh hst
        have hlb : liftB x g u = z1 ++ codeF g.1 g.2 ++ codeF u.1 u.2 := by rw [ba_assoc]; exact if_pos hx2
        simp -implicitDefEqProofs (disch := omega) only [go_sem, h1, h2, h4, h5, h6', h7, s1, s2, s4, sH, hga]
        refine callC_at hcg ?_
        simp -implicitDefEqProofs (disch := omega) only [go_sem, h1, h2, h4, h5, h6', h7, s1, s2, s4, sH, hga, e1, es1, hz1]
        refine callC_at hcu ?_
        rw [hlb] at hwh
        generalize codeF u.1 u.2 = cu at *
        generalize codeF g.1 g.2 = cg at *
        simp -implicitDefEqProofs (disch := omega) only [go_sem, h1, h2, h4, h5, h6', h7, s1, s2, s4, sH, hga, e1, es1, hz1, hht]
        generalize z1 ++ cg ++ cu = hb at *
        refine callC_at hj1 ?_ (h4 := .inr (dn_RP _))
        simp -implicitDefEqProofs (disch := omega) only [go_sem, h1, h2, h4, h5, h6', h7, s1, s2, s4, sH, hga, htd, and_self]
        refine againQ_mk (n - 1) (by omega) ⟨v + 1, joinT g u, hh ++ [hb], by omega, hst.mono (by push_cast; omega), by simp; omega, by rw [hx1]; exact hwk, by rw [hx1, hwh]; simp, ?_⟩
        simp -implicitDefEqProofs (disch := omega) only [go_sem, h1, h2, h4, h5, h6', h7, s1, s2, s4, sH, hga, htd, and_self, hx1]
        simp
    · obtain rfl : v = 6 := by omega
      rw [List.drop_of_length_le (by omega)] at hwk hwh
      rw [hwk, hwh]
      simp only [walkT, walkH, List.append_nil]
      have hht : hh.take hh.length = hh := List.take_length
      show awpC _ _ _ _ _
      simp -implicitDefEqProofs (disch := omega) only [go_sem, h1, h2, h4, h5, h6', h7, s1, s2, s4, sH, hht]
      simp -implicitDefEqProofs (disch := omega) only [go_sem, h1, h2, h4, h5, h6', h7, s1, s2, s4, sH, hht, Tryd.results62]
end Go.Proofs.YtgbcfpcjljhijaaDoor

/- The document's texts -/
import Derived.Test.YtgbcfpcjljhijaaDoorKG
set_option linter.unusedVariables false
set_option linter.unusedSimpArgs false
set_option maxRecDepth 100000
namespace Go.Proofs.YtgbcfpcjljhijaaDoor
open Go.Vai Go Go.Proofs
open Nat (reduceEqDiff reduceMul reduceAdd reduceDiv reduceLeDiff)
open Int (reduceToNat reduceNe reduceEq reduceLT reduceLE)
theorem inR_ev (n lo hi : Int) : Ev Tryd.prog 52 [I n, I lo, I hi] (B (inF n lo hi)) := by
  refine ev_of Tryd.func52 rfl (by kernel_rfl) mo (Nat.le_of_ble_eq_true rfl) ?_
  simp -implicitDefEqProofs (disch := omega) only [go_sem, Tryd.ntmps52]
  refine branch_mk (fun h => ?_) (fun h => ?_) <;> simp -implicitDefEqProofs (disch := omega) only [go_sem, Tryd.results52]
  · have h : lo ≤ n := by omega
    simp [inF, h]
  · have h : ¬ lo ≤ n := by omega
    simp [inF, h]
theorem chOK_R (c : Ch) : chOK c = (inF c.h 0 63 && (inF c.p 0 7 && (inF c.q 0 7 && (decide (c.p ≠ c.q) && (inF c.a 0 1000000000 && decide (c.t.size ≤ 100)))))) := by
  unfold chOK
  generalize inF c.h 0 63 = x1
  generalize inF c.p 0 7 = x2
  generalize inF c.q 0 7 = x3
  generalize decide (c.p ≠ c.q) = x4
  generalize inF c.a 0 1000000000 = x5
  generalize decide (c.t.size ≤ 100) = x6
  cases x1 <;> cases x2 <;> cases x3 <;> cases x4 <;> cases x5 <;> cases x6 <;> rfl
theorem chargeR_ev (c : Ch) : Ev Tryd.prog 81 [CH c] (B (chOK c)) := by
  refine ev_of Tryd.func81 rfl (by kernel_rfl) mo (Nat.le_of_ble_eq_true rfl) ?_
  simp -implicitDefEqProofs (disch := omega) only [go_sem, Tryd.ntmps81]
  rw [chOK_R]
  refine callC_at (inR_ev c.h 0 63) ?_
  generalize inF c.h 0 63 = b1
  simp -implicitDefEqProofs (disch := omega) only [go_sem]
  cases b1
  · simp -implicitDefEqProofs (disch := omega) only [go_sem, Tryd.results81]
  simp -implicitDefEqProofs (disch := omega) only [go_sem]
  refine callC_at (inR_ev c.p 0 7) ?_
  generalize inF c.p 0 7 = b2
  simp -implicitDefEqProofs (disch := omega) only [go_sem]
  cases b2
  · simp -implicitDefEqProofs (disch := omega) only [go_sem, Tryd.results81]
  simp -implicitDefEqProofs (disch := omega) only [go_sem]
  refine callC_at (inR_ev c.q 0 7) ?_
  generalize inF c.q 0 7 = b3
  simp -implicitDefEqProofs (disch := omega) only [go_sem]
  cases b3
  · simp -implicitDefEqProofs (disch := omega) only [go_sem, Tryd.results81]
  simp -implicitDefEqProofs (disch := omega) only [go_sem]
  by_cases hpq : c.p = c.q
  · simp -implicitDefEqProofs (disch := omega) only [go_sem, hpq, Tryd.results81]
  simp -implicitDefEqProofs (disch := omega) only [go_sem, hpq]
  refine callC_at (inR_ev c.a 0 1000000000) ?_
  generalize inF c.a 0 1000000000 = b4
  simp -implicitDefEqProofs (disch := omega) only [go_sem, hpq]
  cases b4
  · simp -implicitDefEqProofs (disch := omega) only [go_sem, hpq, Tryd.results81]
  simp -implicitDefEqProofs (disch := omega) only [go_sem, hpq, Tryd.results81]
  rw [show decide ((c.t.size : Int) ≤ 100) = decide (c.t.size ≤ 100) from decide_eq_decide.2 (by omega)]
theorem chargesR_ev (l : List Ch) (hl : l.length ≤ 9223372036854775807) : Ev Tryd.prog 47 [CL l] (B (chsOK l)) := by
  refine ev_of Tryd.func47 rfl (by kernel_rfl) mo (Nat.le_of_ble_eq_true rfl) ?_
  simp -implicitDefEqProofs (disch := omega) only [go_sem, Tryd.ntmps47]
  refine branch_mk (fun hb => ?_) (fun hb => ?_)
  · simp -implicitDefEqProofs (disch := omega) only [go_sem, Tryd.results47]
    have : ¬ l.length ≤ 60 := by omega
    simp [chsOK, this]
  · have h60 : l.length ≤ 60 := by omega
    simp -implicitDefEqProofs (disch := omega) only [go_sem]
    refine loopC_mk (fun n E σ => ∃ v : Nat, v + n = l.length ∧ E 0 = CL l ∧ E 3 = I v ∧ ∀ i, i < v → chOK (gd l i) = true) l.length ⟨0, by omega, ?_⟩ ?_
    · simp -implicitDefEqProofs (disch := omega) only [go_sem]
      simp
    · rintro n E σ ⟨v, hv, h0, h3, hall⟩
      simp -implicitDefEqProofs (disch := omega) only [go_sem, h0, h3]
      refine branch_mk (fun hc => ?_) (fun hc => ?_)
      · simp -implicitDefEqProofs (disch := omega) only [go_sem, h0, h3]
        refine callC_at (chargeR_ev _) ?_
        simp -implicitDefEqProofs (disch := omega) only [go_sem, h0, h3]
        refine branch_mk (fun hd => ?_) (fun hd => ?_)
        · simp -implicitDefEqProofs (disch := omega) only [go_sem, Tryd.results47]
          have : chsOK l = false := by
            simp only [chsOK, Bool.and_eq_false_iff, decide_eq_false_iff_not]
            right; intro hh
            have := hh v (by omega)
            rw [this] at hd; cases hd
          rw [this]
        · simp -implicitDefEqProofs (disch := omega) only [go_sem, h0, h3]
          refine againQ_mk (n - 1) (by omega) ⟨v + 1, by omega, ?_⟩
          simp -implicitDefEqProofs (disch := omega) only [go_sem, h0, h3]
          refine ⟨by simp, fun i hi => ?_⟩
          by_cases e : i = v
          · subst e; simpa using hd
          · exact hall i (by omega)
      · simp -implicitDefEqProofs (disch := omega) only [go_sem, Tryd.results47]
        have : chsOK l = true := by
          simp only [chsOK, Bool.and_eq_true, decide_eq_true_eq]
          exact ⟨h60, fun i hi => hall i (by omega)⟩
        rw [this]
set_option maxHeartbeats 1000000 in
theorem sumsR_ev (l : List Ch) (hl : ∀ c ∈ l, c.ok) (hn : l.length ≤ 1000) : Ev Tryd.prog 48 [CL l] (SL (sumsF l)) := by
  refine ev_sl (r := .new 3 1 ((sumsF l).map I)) ?_ _
  refine ev_of Tryd.func48 rfl (by kernel_rfl) mo (Nat.le_of_ble_eq_true rfl) ?_
  simp -implicitDefEqProofs (disch := omega) only [go_sem, Tryd.ntmps48]
  refine loopC_mk (fun n E σ => ∃ v : Nat, v + n = l.length ∧ E 0 = CL l ∧ E 3 = .own 102760528 1 0 8 ∧ E 4 = I v ∧ σ 102760528 = some ⟨3, 1, (sumsF (l.take v)).map I⟩) l.length ⟨0, by omega, ?_⟩ ?_
  · simp -implicitDefEqProofs (disch := omega) only [go_sem]
    exact ⟨rfl, rfl⟩
  · rintro n E σ ⟨v, hv, h0, h3, h4, s2⟩
    obtain ⟨hsl, hsb⟩ := sumsF_take l hl v (by omega)
    simp -implicitDefEqProofs (disch := omega) only [go_sem, h0, h3, h4, s2]
    refine branch_mk (fun hc => ?_) (fun hc => ?_)
    · have hok := hl _ (gd_mem l v (by omega))
      have hpay := stepS_le hsb hok
      obtain ⟨p1, p2, q1, q2, a1, a2, _⟩ := hok
      have htk : l.take (v + 1) = l.take v ++ [gd l v] := by rw [List.take_add_one, gd_some l v (by omega)]; rfl
      have hst : sumsF (l.take (v + 1)) = stepS (sumsF (l.take v)) (gd l v) := by rw [htk, sumsF_snoc]
      generalize sumsF (l.take v) = q at *
      have hb1 := hsb (gd l v).p.toNat
      have hb2 := hpay (gd l v).q.toNat
      have hpl : (payS q (gd l v)).length = 8 := by rw [payS_length]; exact hsl
      have hpay : q.set (gd l v).p.toNat (gd q (gd l v).p.toNat - (gd l v).a) = payS q (gd l v) := rfl
      have hstep : (payS q (gd l v)).set (gd l v).q.toNat (gd (payS q (gd l v)) (gd l v).q.toNat + (gd l v).a) = stepS q (gd l v) := rfl
      simp -implicitDefEqProofs (disch := omega) only [go_sem, h0, h3, h4, s2, hsl, hpl, hpay, hstep]
      refine againQ_mk (n - 1) (by omega) ⟨v + 1, by omega, ?_⟩
      rw [hst]
      simp -implicitDefEqProofs (disch := omega) only [go_sem, h0, h3, h4, s2, hsl, hpl, hpay, hstep]
      simp
    · have e : v = l.length := by omega
      subst e
      rw [List.take_length] at s2 hsl hsb
      simp -implicitDefEqProofs (disch := omega) only [go_sem, h0, h3, h4, s2, hsl, Tryd.results48, List.take_of_length_le]
theorem numS_snoc : ∀ (l : List Int) (n : Int), numS (l ++ [n]) = numS l ++ viS n := fun l n => by
  apply bI_inj; rw [bI_append, numS_bI, numS_bI, numBC_snoc]
theorem puts_ev (l : List Int) (hr : ∀ n ∈ l, -4611686018427387903 ≤ n ∧ n ≤ 4611686018427387903) (hn : l.length ≤ 1000) : Ev Tryd.prog 87 [SL l] (Str (numS l)) := by
  refine ev_of Tryd.func87 rfl (by kernel_rfl) mo (Nat.le_of_ble_eq_true rfl) ?_
  simp -implicitDefEqProofs (disch := omega) only [go_sem, Tryd.ntmps87]
  refine loopC_mk (fun n E σ => ∃ v : Nat, v + n = l.length ∧ E 0 = SL l ∧ E 3 = Str (numS (l.take v)) ∧ E 4 = I v) l.length ⟨0, by omega, ?_⟩ ?_
  · simp -implicitDefEqProofs (disch := omega) only [go_sem, List.take_zero]
    exact ⟨rfl, rfl⟩
  · rintro n E σ ⟨v, hv, h0, h3, h4⟩
    simp -implicitDefEqProofs (disch := omega) only [go_sem, h0, h3, h4]
    refine branch_mk (fun hc => ?_) (fun hc => ?_)
    · have htk : l.take (v + 1) = l.take v ++ [gd l v] := by rw [List.take_add_one, gd_some l v (by omega)]; rfl
      have hb := hr _ (gd_mem l v (by omega))
      have hz := numS_size (l.take v)
      rw [List.length_take] at hz
      have hz2 := viS_size (gd l v)
      simp -implicitDefEqProofs (disch := omega) only [go_sem, h0, h3, h4]
      refine callC_at (putIntR_ev _ hb.1 hb.2) ?_
      simp -implicitDefEqProofs (disch := omega) only [go_sem, h0, h3, h4]
      refine againQ_mk (n - 1) (by omega) ⟨v + 1, by omega, ?_⟩
      rw [htk, numS_snoc]
      simp -implicitDefEqProofs (disch := omega) only [go_sem, h0, h3, h4]
      simp
    · have e : v = l.length := by omega
      subst e
      rw [List.take_length] at h3
      simp -implicitDefEqProofs (disch := omega) only [go_sem, h0, h3, h4, Tryd.results87]
theorem codeR_ev (s : List Int) (d : ByteArray) (h8 : s.length ≤ 1000) (hr : ∀ n ∈ s, -4611686018427387903 ≤ n ∧ n ≤ 4611686018427387903) (hd : d.size ≤ 1000) : Ev Tryd.prog 96 [RP (s, d)] (Str (codeF s d)) := by
  refine ev_of Tryd.func96 rfl (by kernel_rfl) mo (Nat.le_of_ble_eq_true rfl) ?_
  have hz := numS_size s
  simp -implicitDefEqProofs (disch := omega) only [go_sem, Tryd.ntmps96]
  refine callC_at (puts_ev s hr h8) ?_
  simp -implicitDefEqProofs (disch := omega) only [go_sem, Tryd.results96]
  rfl
end Go.Proofs.YtgbcfpcjljhijaaDoor
set_option maxRecDepth 100000
namespace Go.Proofs.YtgbcfpcjljhijaaDoor
open Go.Vai Go Go.Proofs
open Nat (reduceEqDiff reduceMul reduceAdd reduceDiv reduceLeDiff)
open Int (reduceToNat reduceNe reduceEq reduceLT reduceLE)
theorem chsS_snoc (l : List Ch) (c : Ch) : chsS (l ++ [c]) = chsS l ++ chS c := by
  apply bI_inj; rw [bI_append, chsS_bI, chsS_bI, chS_bI]; simp
theorem chsS_size {l : List Ch} (hl : ∀ c ∈ l, c.ok) : (chsS l).size ≤ 140 * l.length := by
  rw [← bI_length, chsS_bI]; exact flat_length l hl
set_option maxHeartbeats 1000000 in
theorem content_ev (l : List Ch) (hl : ∀ c ∈ l, c.ok) (hn : l.length ≤ 60) : Ev Tryd.prog 104 [CL l] (Str (contF l)) := by
  refine ev_of Tryd.func104 rfl (by kernel_rfl) mo (Nat.le_of_ble_eq_true rfl) ?_
  simp -implicitDefEqProofs (disch := omega) only [go_sem, Tryd.ntmps104]
  refine callC_sem rfl ?_
  refine freeze_op [220201104] ?_
  simp -implicitDefEqProofs (disch := omega) only [go_sem]
  refine callC_at (puts_ev [(l.length : Int)] (by simp; omega) (by simp)) ?_
  have hz := numS_size [(l.length : Int)]
  simp only [List.length_singleton] at hz
  generalize hp : numS [(l.length : Int)] = p at *
  simp -implicitDefEqProofs (disch := omega) only [go_sem]
  refine loopC_mk (fun n E σ => ∃ v : Nat, v + n = l.length ∧ E 0 = CL l ∧ E 3 = Str (p ++ chsS (l.take v)) ∧ E 4 = I v) l.length ⟨0, by omega, ?_⟩ ?_
  · simp -implicitDefEqProofs (disch := omega) only [go_sem, List.take_zero]
    refine ⟨?_, rfl⟩
    rw [show chsS [] = ⟨#[]⟩ from rfl]
    congr 2
    apply bI_inj; rw [bI_append]; simp [bI]
  · rintro n E σ ⟨v, hv, h0, h3, h4⟩
    have hsz := chsS_size (l := l.take v) (fun c hc => hl c (List.mem_of_mem_take hc))
    rw [List.length_take] at hsz
    have hps : (p ++ chsS (l.take v)).size ≤ 10000 := by rw [ByteArray.size_append]; omega
    simp -implicitDefEqProofs (disch := omega) only [go_sem, h0, h3, h4]
    refine branch_mk (fun hc => ?_) (fun hc => ?_)
    · have htk : l.take (v + 1) = l.take v ++ [gd l v] := by rw [List.take_add_one, gd_some l v (by omega)]; rfl
      have hok := hl _ (gd_mem l v (by omega))
      obtain ⟨p1, p2, q1, q2, a1, a2, _, _, ht⟩ := hok
      have hvs := viS_size ((gd l v).t.size : Int)
      have hnl3 := numS_size [(gd l v).p, (gd l v).q, (gd l v).a]
      simp only [List.length_cons, List.length_nil] at hnl3
      have hws : (viS ((gd l v).t.size : Int) ++ (gd l v).t).size ≤ 200 := by rw [ByteArray.size_append]; omega
      have hnx : p ++ chsS (l.take (v + 1)) = (p ++ chsS (l.take v)) ++ numS [(gd l v).p, (gd l v).q, (gd l v).a] ++ (viS ((gd l v).t.size : Int) ++ (gd l v).t) := by
        rw [htk, chsS_snoc]; apply bI_inj; simp only [bI_append, chS, List.append_assoc]
      simp -implicitDefEqProofs (disch := omega) only [go_sem, h0, h3, h4]
      refine callC_at (putStrR_ev (gd l v).t (by omega)) ?_
      generalize viS ((gd l v).t.size : Int) ++ (gd l v).t = w at *
      generalize hq : p ++ chsS (l.take v) = q at *
      simp -implicitDefEqProofs (disch := omega) only [go_sem, h0, h3, h4]
      refine callC_at (puts_ev [(gd l v).p, (gd l v).q, (gd l v).a] (by intro n hn; simp at hn; rcases hn with rfl | rfl | rfl <;> omega) (by simp)) ?_
      generalize numS [(gd l v).p, (gd l v).q, (gd l v).a] = r at *
      have hqr : (q ++ r).size = q.size + r.size := ByteArray.size_append
      simp -implicitDefEqProofs (disch := omega) only [go_sem, h0, h3, h4]
      refine againQ_mk (n - 1) (by omega) ⟨v + 1, by omega, ?_⟩
      rw [hnx]
      simp -implicitDefEqProofs (disch := omega) only [go_sem, h0, h3, h4]
      simp
    · have e : v = l.length := by omega
      subst e
      rw [List.take_length] at h3
      simp -implicitDefEqProofs (disch := omega) only [go_sem, h0, h3, h4, Tryd.results104]
      rw [← hp]; rfl
end Go.Proofs.YtgbcfpcjljhijaaDoor
set_option maxRecDepth 100000
namespace Go.Proofs.YtgbcfpcjljhijaaDoor
open Go.Vai Go Go.Proofs
open Nat (reduceEqDiff reduceMul reduceAdd reduceDiv reduceLeDiff)
open Int (reduceToNat reduceNe reduceEq reduceLT reduceLE)
abbrev SLs (l : List ByteArray) : AV := .sl 1 (l.map Str)
section
variable (p : Nat → Bool) (l : List ByteArray)
@[go_sem] theorem namesL_Str : AV.namesL p (l.map Str) = false := namesL_map p l Str fun _ => rfl
@[go_sem] theorem flatL_Str : AV.flatL (l.map Str) = true := flatL_map l Str fun _ => rfl
@[go_sem] theorem allOK_Str : allOK 1 (l.map Str) = true := allOK_map 1 l Str fun _ => ⟨rfl, rfl⟩
@[go_sem] theorem append_Str (x : ByteArray) : l.map Str ++ [.v (.string x)] = (l ++ [x]).map Str := by simp
end
theorem ba_assoc (a b c : ByteArray) : (a ++ b) ++ c = a ++ (b ++ c) := by apply bI_inj; simp only [bI_append, List.append_assoc]
theorem contF_size {l : List Ch} (hl : ∀ c ∈ l, c.ok) (hn : l.length ≤ 60) : (contF l).size ≤ 10000 := by
  have h1 := chsS_size hl
  have h2 := numS_size [(l.length : Int)]
  simp only [List.length_singleton] at h2
  unfold contF; rw [ByteArray.size_append]; omega
theorem sumsF_nb {l : List Ch} (hl : ∀ c ∈ l, c.ok) (hn : l.length ≤ 60) : ∀ n ∈ sumsF l, -4611686018427387903 ≤ n ∧ n ≤ 4611686018427387903 := fun n hn' => by
  have := (leafT_ok ⟨#[]⟩ l hl hn).2.1 n hn'
  omega
set_option maxHeartbeats 1000000 in
theorem leafR_tt (salt : ByteArray) (l : List Ch) (hs : salt.size = 32) (hl : ∀ c ∈ l, c.ok) (hn : l.length ≤ 60) : Ev Tryd.prog 77 [Str salt, CL l] (.tup [RP (leafT salt l), .new 9 1 ((leafH salt l).map Str)]) := by
  have hcz := contF_size hl hn
  have hlf := leafF_size (contF l)
  have hnf := nodeF_size salt (leafF (contF l))
  have hz := numS_size (sumsF l)
  have hs8 := sumsF_len l
  have hcF : z1 ++ salt ++ leafF (contF l) = z1 ++ (salt ++ leafF (contF l)) := ba_assoc _ _ _
  have hsz1 : (z1 ++ salt).size = 1 + salt.size := ByteArray.size_append
  have hsz0 : ∀ a : ByteArray, (z0 ++ a).size = 1 + a.size := fun a => ByteArray.size_append
  refine ev_of Tryd.func77 rfl (by kernel_rfl) mo (Nat.le_of_ble_eq_true rfl) ?_
  simp -implicitDefEqProofs (disch := omega) only [go_sem, Tryd.ntmps77]
  refine callC_at (sumsR_ev l hl (by omega)) ?_
  simp -implicitDefEqProofs (disch := omega) only [go_sem]
  refine callC_at (content_ev l hl hn) ?_
  simp -implicitDefEqProofs (disch := omega) only [go_sem]
  refine callC_at (leafR_at (contF l) (by omega)) ?_
  simp -implicitDefEqProofs (disch := omega) only [go_sem]
  refine callC_at (puts_ev (sumsF l) (sumsF_nb hl hn) (by omega)) ?_
  simp -implicitDefEqProofs (disch := omega) only [go_sem]
  refine callC_at (nodeR_at salt (leafF (contF l)) (by omega)) ?_
  have hmz : (numS (sumsF l) ++ nodeF salt (leafF (contF l))).size ≤ 200 := by rw [ByteArray.size_append]; omega
  have hdg : leafF (numS (sumsF l) ++ nodeF salt (leafF (contF l))) = tleafD salt l := rfl
  have hH : leafH salt l = [z0 ++ contF l, z1 ++ (salt ++ leafF (contF l)), z0 ++ (numS (sumsF l) ++ nodeF salt (leafF (contF l)))] := rfl
  rw [hH]
  simp -implicitDefEqProofs (disch := omega) only [go_sem]
  generalize numS (sumsF l) ++ nodeF salt (leafF (contF l)) = mask at *
  refine callC_at (leafR_at mask (by omega)) ?_
  rw [hdg]
  simp -implicitDefEqProofs (disch := omega) only [go_sem]
  refine callC_at (content_ev l hl hn) ?_
  have e0 : (⟨#[0]⟩ : ByteArray) = z0 := rfl
  have e1 : (⟨#[1]⟩ : ByteArray) = z1 := rfl
  have es0 : z0.size = 1 := rfl
  have es1 : z1.size = 1 := rfl
  simp -implicitDefEqProofs (disch := omega) only [go_sem, e0, e1, es0, es1, hcF, Tryd.results77]
  rfl
theorem codeR_at {B : Int} {t : Tot} (h : TotB B t) (hB : B ≤ 4611686018427387903) : Ev Tryd.prog 96 [RP t] (Str (codeF t.1 t.2)) := by
  obtain ⟨s, d⟩ := t
  exact codeR_ev s d (by have := h.1; simp at this; omega) (h.nb hB) (by have := h.2.2; simp at this; omega)
theorem codeF_size {B : Int} {t : Tot} (h : TotB B t) : (codeF t.1 t.2).size ≤ 1000 := by
  have h1 := numS_size t.1
  have h2 := h.1
  have h3 := h.2.2
  unfold codeF; rw [ByteArray.size_append]; omega
def joinK (s t : List Int) (v : Nat) : List Int := (List.range v).map fun j => gd s j + gd t j
theorem joinK_succ (s t : List Int) (v : Nat) : joinK s t (v + 1) = joinK s t v ++ [gd s v + gd t v] := by unfold joinK; rw [List.range_succ, List.map_append]; rfl
set_option maxHeartbeats 1000000 in
theorem joinR_at {a b : Tot} (ha : TotB 1000000000000000 a) (hb : TotB 1000000000000000 b) : Ev Tryd.prog 78 [RP a, RP b] (RP (joinT a b)) := by
  have hca := codeR_at ha (by omega)
  have hcb := codeR_at hb (by omega)
  have hza := codeF_size ha
  have hzb := codeF_size hb
  have ha8 := ha.1
  have hb8 := hb.1
  have hnode : (joinT a b).2 = nodeF (codeF a.1 a.2) (codeF b.1 b.2) := rfl
  refine ev_ofB [2, 6] Tryd.func78 rfl (by kernel_rfl) mo (Nat.le_of_ble_eq_true rfl) ?_
  simp -implicitDefEqProofs (disch := omega) only [go_sem, Tryd.ntmps78]
  refine callC_at hca ?_
  simp -implicitDefEqProofs (disch := omega) only [go_sem]
  refine callC_at hcb ?_
  simp -implicitDefEqProofs (disch := omega) only [go_sem]
  refine callC_at (nodeR_at _ _ (by omega)) ?_
  rw [← hnode]
  have hj1 : (joinT a b).1 = joinS a.1 b.1 := rfl
  have hjab : joinT a b = ((joinT a b).1, (joinT a b).2) := rfl
  rw [hjab, hj1]
  generalize (joinT a b).2 = N at *
  simp -implicitDefEqProofs (disch := omega) only [go_sem]
  refine nilOwn_C 165675088 165675089 0 0 3 1 (k := ⟨35, 2, [.agg [.v (.slice none 0 0), Str N]]⟩) (el := .agg [.v (.slice none 0 0), Str N]) (by simp -implicitDefEqProofs (disch := omega) only [go_sem]) (by decide) rfl rfl (by simp) (by simp -implicitDefEqProofs (disch := omega) only [go_sem]) rfl ?_
  refine reg_mk Plain.mono ?_
  simp -implicitDefEqProofs (disch := omega) only [go_sem]
  refine loopC_mk (fun n E σ => ∃ v : Nat, v + n = 8 ∧ E 2 = .ptr 165675040 2 0 0 ∧ E 3 = .ptr 165675056 2 0 0 ∧ E 4 = .ptr 165675072 2 0 0 ∧ E 5 = .ptr 165675088 2 0 0 ∧ E 6 = I v ∧ σ 165675040 = some ⟨35, 2, [RP a]⟩ ∧ σ 165675056 = some ⟨35, 2, [RP b]⟩ ∧ σ 165675072 = some ⟨35, 2, [.agg [.v (.slice none 0 0), Str ByteArray.empty]]⟩ ∧ σ 165675088 = some ⟨35, 2, [.agg [.own 165675089 1 0 v, Str N]]⟩ ∧ σ 165675089 = some ⟨3, 1, (joinK a.1 b.1 v).map I⟩) 8 ⟨0, by omega, ?_⟩ ?_
  · simp -implicitDefEqProofs (disch := omega) only [go_sem]
    simp [joinK]
  · rintro n E σ ⟨v, hv, h2, h3, h4, h5, h6, s2, s3, s4, s5, sK⟩
    have hkl : (joinK a.1 b.1 v).length = v := by simp [joinK]
    simp -implicitDefEqProofs (disch := omega) only [go_sem, h2, h3, h4, h5, h6, s2, s3, s4, s5, sK]
    refine branch_mk (fun hc => ?_) (fun hc => ?_)
    · simp -implicitDefEqProofs (disch := omega) only [go_sem, h2, h3, h4, h5, h6, s2, s3, s4, s5, sK]
      refine branch_l (by omega) ?_
      have b1 := ha.2.1 _ (gd_mem a.1 v (by omega))
      have b2 := hb.2.1 _ (gd_mem b.1 v (by omega))
      have hks := joinK_succ a.1 b.1 v
      have hkt : (joinK a.1 b.1 v).take v = joinK a.1 b.1 v := List.take_of_length_le (by omega)
      generalize joinK a.1 b.1 v = q at *
      simp -implicitDefEqProofs (disch := omega) only [go_sem, h2, h3, h4, h5, h6, s2, s3, s4, s5, sK, hkl, hkt]
      refine againQ_mk (n - 1) (by omega) ⟨v + 1, by omega, ?_⟩
      rw [hks]
      simp -implicitDefEqProofs (disch := omega) only [go_sem, h2, h3, h4, h5, h6, s2, s3, s4, s5, sK, hkl, hkt, and_self]
      simp
    · obtain rfl : v = 8 := by omega
      simp -implicitDefEqProofs (disch := omega) only [go_sem, h2, h3, h4, h5, h6, s2, s3, s4, s5, sK]
      refine freeze_reg Plain.mono [165675088, 165675089] ?_
      simp -implicitDefEqProofs (disch := omega) only [go_sem, h2, h3, h4, h5, h6, s2, s3, s4, s5, sK, hkl]
      have hjk : joinK a.1 b.1 8 = joinS a.1 b.1 := rfl
      simp -implicitDefEqProofs (disch := omega) only [go_sem, h2, h3, h4, h5, h6, s2, s3, s4, s5, sK, hkl, hjk, Tryd.results78]
end Go.Proofs.YtgbcfpcjljhijaaDoor
set_option maxRecDepth 100000
namespace Go.Proofs.YtgbcfpcjljhijaaDoor
open Go.Vai Go Go.Proofs
open Nat (reduceEqDiff reduceMul reduceAdd reduceDiv reduceLeDiff)
open Int (reduceToNat reduceNe reduceEq reduceLT reduceLE)
@[go_sem] theorem namesL_RPL (p : Nat → Bool) (l : List (List Tot)) : AV.namesL p (l.map RPL) = false := namesL_map p l RPL fun _ => rfl
@[go_sem] theorem allOK_RPL (l : List (List Tot)) : allOK 1 (l.map RPL) = true := allOK_map 1 l RPL fun _ => ⟨rfl, rfl⟩
@[go_sem] theorem append_RPL (l : List (List Tot)) (r : List Tot) : l.map RPL ++ [.sl 2 (r.map RP)] = (l ++ [r]).map RPL := by simp
end Go.Proofs.YtgbcfpcjljhijaaDoor
set_option maxRecDepth 100000
namespace Go.Proofs.YtgbcfpcjljhijaaDoor
open Go.Vai Go Go.Proofs
open Nat (reduceEqDiff reduceMul reduceAdd reduceDiv reduceLeDiff)
open Int (reduceToNat reduceNe reduceEq reduceLT reduceLE)
theorem tmod2 (x : Nat) : ((x : Int)).tmod 2 = ((x % 2 : Nat) : Int) := by rw [Int.tmod_eq_emod_of_nonneg (by omega)]; omega
theorem tdiv2 (x : Nat) : ((x : Int)).tdiv 2 = ((x / 2 : Nat) : Int) := by rw [Int.tdiv_eq_ediv_of_nonneg (by omega)]; omega
end Go.Proofs.YtgbcfpcjljhijaaDoor
set_option maxRecDepth 100000
namespace Go.Proofs.YtgbcfpcjljhijaaDoor
open Go.Vai Go Go.Proofs
open Nat (reduceEqDiff reduceMul reduceAdd reduceDiv reduceLeDiff)
open Int (reduceToNat reduceNe reduceEq reduceLT reduceLE)
theorem totOK_iff (t : Tot) : totOK t = true ↔ t.1.length = 8 ∧ t.2.size = 32 ∧ ∀ i, i < t.1.length → inF (gd t.1 i) (-1000000000000) 1000000000000 = true := by
  simp only [totOK, Bool.and_eq_true, decide_eq_true_eq, and_assoc, inF]
  constructor
  · rintro ⟨h1, h2, h3⟩; exact ⟨h1, h2, fun i hi => h3 _ (gd_mem _ i hi)⟩
  · rintro ⟨h1, h2, h3⟩
    refine ⟨h1, h2, fun n hn => ?_⟩
    obtain ⟨i, hi, rfl⟩ := List.mem_iff_getElem.1 hn
    rw [← gd_get _ i hi]; exact h3 i hi
theorem accOK_parts (a : Acc) : accOK a = true ↔ inF a.h 0 63 = true ∧ chsOK a.l = true ∧ a.s.size = 32 ∧ a.p.length = 6 ∧ (∀ i, i < a.l.length → (gd a.l i).h = a.h) ∧ ∀ i, i < a.p.length → totOK (gd a.p i) = true := by
  simp only [accOK, Bool.and_eq_true, decide_eq_true_eq]
  constructor
  · rintro ⟨⟨⟨⟨⟨h1, h2⟩, h3⟩, h4⟩, h5⟩, h6⟩
    exact ⟨h1, h2, h4, h5, fun i hi => h3 _ (gd_mem _ i hi), fun i hi => h6 _ (gd_mem _ i hi)⟩
  · rintro ⟨h1, h2, h4, h5, h3, h6⟩
    refine ⟨⟨⟨⟨⟨h1, h2⟩, fun c hc => ?_⟩, h4⟩, h5⟩, fun t ht => ?_⟩
    · obtain ⟨i, hi, rfl⟩ := List.mem_iff_getElem.1 hc
      rw [← gd_get _ i hi]; exact h3 i hi
    · obtain ⟨i, hi, rfl⟩ := List.mem_iff_getElem.1 ht
      rw [← gd_get _ i hi]; exact h6 i hi
theorem accOK_no {a : Acc} (h : ¬ (inF a.h 0 63 = true ∧ chsOK a.l = true ∧ a.s.size = 32 ∧ a.p.length = 6 ∧ (∀ i, i < a.l.length → (gd a.l i).h = a.h) ∧ ∀ i, i < a.p.length → totOK (gd a.p i) = true)) : accOK a = false := by
  rw [← accOK_parts] at h; simpa using h
set_option maxHeartbeats 1000000 in
theorem formed_ev (a : Acc) (hl : a.l.length ≤ 9223372036854775807) (hp : a.p.length ≤ 9223372036854775807) (hpl : ∀ t ∈ a.p, t.1.length ≤ 9223372036854775807) : Ev Tryd.prog 61 [AP a] (B (accOK a)) := by
  refine ev_of Tryd.func61 rfl (by kernel_rfl) mo (Nat.le_of_ble_eq_true rfl) ?_
  simp -implicitDefEqProofs (disch := omega) only [go_sem, Tryd.ntmps61]
  refine callC_at (inR_ev a.h 0 63) ?_
  cases hin : inF a.h 0 63
  · simp -implicitDefEqProofs (disch := omega) only [go_sem, Tryd.results61]
    rw [accOK_no (by rw [hin]; simp)]
  simp -implicitDefEqProofs (disch := omega) only [go_sem]
  refine callC_at (chargesR_ev a.l hl) ?_
  cases hcs : chsOK a.l
  · simp -implicitDefEqProofs (disch := omega) only [go_sem, Tryd.results61]
    rw [accOK_no (by rw [hcs]; simp)]
  obtain ⟨hn, hok⟩ := chsOK_iff _ hcs
  simp -implicitDefEqProofs (disch := omega) only [go_sem]
  refine branch_mk (fun h32 => ?_) (fun h32 => ?_)
  · simp -implicitDefEqProofs (disch := omega) only [go_sem, Tryd.results61]
    rw [accOK_no (by intro h; omega)]
  simp -implicitDefEqProofs (disch := omega) only [go_sem]
  refine branch_mk (fun h6 => ?_) (fun h6 => ?_)
  · simp -implicitDefEqProofs (disch := omega) only [go_sem, Tryd.results61]
    rw [accOK_no (by intro h; omega)]
  simp -implicitDefEqProofs (disch := omega) only [go_sem]
  refine loopC_mk (fun n E σ => ∃ v : Nat, v + n = a.l.length ∧ E 1 = .ptr 130023440 4 0 0 ∧ E 3 = I v ∧ σ 130023440 = some ⟨51, 4, [AP a]⟩ ∧ ∀ i, i < v → (gd a.l i).h = a.h) a.l.length ⟨0, by omega, ?_⟩ ?_
  · simp -implicitDefEqProofs (disch := omega) only [go_sem]
    simp
  rintro n E σ ⟨v, hv, e1, e3, s1, hall⟩
  simp -implicitDefEqProofs (disch := omega) only [go_sem, e1, e3, s1]
  refine branch_mk (fun hc => ?_) (fun hc => ?_)
  · simp -implicitDefEqProofs (disch := omega) only [go_sem, e1, e3, s1]
    refine branch_mk (fun hd => ?_) (fun hd => ?_)
    · simp -implicitDefEqProofs (disch := omega) only [go_sem, Tryd.results61]
      rw [accOK_no (by intro h; exact hd (h.2.2.2.2.1 v (by omega)))]
    · simp -implicitDefEqProofs (disch := omega) only [go_sem, e1, e3, s1]
      refine againQ_mk (n - 1) (by omega) ⟨v + 1, by omega, ?_⟩
      simp -implicitDefEqProofs (disch := omega) only [go_sem, e1, e3, s1]
      refine ⟨by simp, fun i hi => ?_⟩
      by_cases e : i = v
      · subst e; simpa using hd
      · exact hall i (by omega)
  · obtain rfl : v = a.l.length := by omega
    simp -implicitDefEqProofs (disch := omega) only [go_sem, e1, e3, s1]
    refine loopC_mk (fun n E σ => ∃ w : Nat, w + n = a.p.length ∧ E 1 = .ptr 130023440 4 0 0 ∧ E 4 = I w ∧ σ 130023440 = some ⟨51, 4, [AP a]⟩ ∧ ∀ i, i < w → totOK (gd a.p i) = true) a.p.length ⟨0, by omega, ?_⟩ ?_
    · simp -implicitDefEqProofs (disch := omega) only [go_sem, e1, e3, s1]
      simp
    clear e1 e3 s1 hc E σ
    rintro n E σ ⟨w, hw, e1, e4, s1, hallp⟩
    simp -implicitDefEqProofs (disch := omega) only [go_sem, e1, e4, s1]
    refine branch_mk (fun hc => ?_) (fun hc => ?_)
    · have hno : totOK (gd a.p w) = false → accOK a = false := fun hf => accOK_no (by
        intro h
        have := h.2.2.2.2.2 w (by omega)
        rw [hf] at this; cases this)
      have htl := hpl _ (gd_mem a.p w (by omega))
      have hno2 : ¬ ((gd a.p w).1.length = 8 ∧ (gd a.p w).2.size = 32 ∧ ∀ i, i < (gd a.p w).1.length → inF (gd (gd a.p w).1 i) (-1000000000000) 1000000000000 = true) → accOK a = false := fun hf => hno (by rw [← totOK_iff] at hf; simpa using hf)
      generalize hga : gd a.p w = t at *
      simp -implicitDefEqProofs (disch := omega) only [go_sem, e1, e4, s1, hga]
      refine branch_mk (fun h8 => ?_) (fun h8 => ?_)
      · simp -implicitDefEqProofs (disch := omega) only [go_sem, Tryd.results61]
        rw [hno2 (by intro h; omega)]
      simp -implicitDefEqProofs (disch := omega) only [go_sem, e1, e4, s1, hga]
      refine branch_mk (fun hd => ?_) (fun hd => ?_)
      · simp -implicitDefEqProofs (disch := omega) only [go_sem, Tryd.results61]
        rw [hno2 (by intro h; omega)]
      simp -implicitDefEqProofs (disch := omega) only [go_sem, e1, e4, s1, hga]
      refine loopC_mk (fun n E σ => ∃ u : Nat, u + n = t.1.length ∧ E 1 = .ptr 130023440 4 0 0 ∧ E 4 = I w ∧ E 5 = I u ∧ σ 130023440 = some ⟨51, 4, [AP a]⟩ ∧ ∀ i, i < u → inF (gd t.1 i) (-1000000000000) 1000000000000 = true) t.1.length ⟨0, by omega, ?_⟩ ?_
      · simp -implicitDefEqProofs (disch := omega) only [go_sem, e1, e4, s1, hga]
        simp
      clear e1 e4 s1 E σ
      rintro m E σ ⟨u, hu, e1, e4, e5, s1, hallu⟩
      simp -implicitDefEqProofs (disch := omega) only [go_sem, e1, e4, e5, s1, hga]
      refine branch_mk (fun hcu => ?_) (fun hcu => ?_)
      · simp -implicitDefEqProofs (disch := omega) only [go_sem, e1, e4, e5, s1, hga]
        refine callC_at (inR_ev (gd t.1 u) (-1000000000000) 1000000000000) ?_
        simp -implicitDefEqProofs (disch := omega) only [go_sem, e1, e4, e5, s1, hga]
        refine branch_mk (fun hz => ?_) (fun hz => ?_)
        · simp -implicitDefEqProofs (disch := omega) only [go_sem, Tryd.results61]
          rw [hno2 (by intro h; have := h.2.2 u (by omega); rw [this] at hz; cases hz)]
        · simp -implicitDefEqProofs (disch := omega) only [go_sem, e1, e4, e5, s1, hga]
          refine againQ_mk (m - 1) (by omega) ⟨u + 1, by omega, ?_⟩
          simp -implicitDefEqProofs (disch := omega) only [go_sem, e1, e4, e5, s1, hga]
          refine ⟨by simp, fun i hi => ?_⟩
          by_cases e : i = u
          · subst e; simpa using hz
          · exact hallu i (by omega)
      · simp -implicitDefEqProofs (disch := omega) only [go_sem, e1, e4, e5, s1, hga]
        refine againQ_mk (n - 1) (by omega) ⟨w + 1, by omega, ?_⟩
        simp -implicitDefEqProofs (disch := omega) only [go_sem, e1, e4, e5, s1, hga]
        refine ⟨by simp, fun i hi => ?_⟩
        by_cases e : i = w
        · subst e
          rw [hga, totOK_iff]
          exact ⟨by omega, by omega, fun i hi => hallu i (by omega)⟩
        · exact hallp i (by omega)
    · simp -implicitDefEqProofs (disch := omega) only [go_sem, Tryd.results61]
      rw [(accOK_parts a).2 ⟨hin, hcs, by omega, by omega, fun i hi => hall i hi, fun i hi => hallp i (by omega)⟩]
end Go.Proofs.YtgbcfpcjljhijaaDoor
set_option maxRecDepth 100000
namespace Go.Proofs.YtgbcfpcjljhijaaDoor
open Go.Vai Go Go.Proofs
open Nat (reduceEqDiff reduceMul reduceAdd reduceDiv reduceLeDiff)
open Int (reduceToNat reduceNe reduceEq reduceLT reduceLE)
set_option maxHeartbeats 2000000 in
theorem walkR_ev (a : Acc) (ha : accOK a = true) : Ev Tryd.prog 62 [AP a] (.tup [RP (walkT a.h.toNat a.p (leafT a.s a.l)), SLs (leafH a.s a.l ++ walkH a.h.toNat a.p (leafT a.s a.l))]) := by
  obtain ⟨hin, ⟨hn, hok⟩, hown, h32, h6, htot⟩ := accOK_iff ha
  refine ev_sl (r := .tup [RP (walkT a.h.toNat a.p (leafT a.s a.l)), .new 9 1 ((leafH a.s a.l ++ walkH a.h.toNat a.p (leafT a.s a.l)).map Str)]) ?_ _
  refine ev_of Tryd.func62 rfl (by kernel_rfl) mo (Nat.le_of_ble_eq_true rfl) ?_
  simp -implicitDefEqProofs (disch := omega) only [go_sem, Tryd.ntmps62]
  refine callC_at (leafR_tt a.s a.l h32 hok hn) ?_
  have hlf := leafT_ok a.s a.l hok hn
  have hlH : (leafH a.s a.l).length = 3 := rfl
  generalize leafH a.s a.l = H0 at *
  generalize leafT a.s a.l = lf at *
  obtain ⟨k, hk⟩ : ∃ k : Nat, a.h = k := ⟨a.h.toNat, by omega⟩
  have hk63 : k < 64 := by omega
  have hkt : a.h.toNat = k := by omega
  rw [hkt]
  simp -implicitDefEqProofs (disch := omega) only [go_sem, hk]
  refine loopC_mk (fun n E σ => ∃ (v : Nat) (u : Tot) (hh : List ByteArray), v + n = 6 ∧ TotB (120000000000 + 1000000000000 * v) u ∧ hh.length = 3 + v ∧ walkT k a.p lf = walkT (k / 2 ^ v) (a.p.drop v) u ∧ H0 ++ walkH k a.p lf = hh ++ walkH (k / 2 ^ v) (a.p.drop v) u ∧ E 1 = .ptr 132120592 4 0 0 ∧ E 2 = .ptr 132120608 2 0 0 ∧ E 4 = .ptr 132120640 2 0 0 ∧ E 5 = .own 132120785 1 0 hh.length ∧ E 6 = I ((k / 2 ^ v : Nat) : Int) ∧ E 7 = I v ∧ σ 132120592 = some ⟨51, 4, [AP a]⟩ ∧ σ 132120608 = some ⟨35, 2, [.agg [.v (.slice none 0 0), Str ByteArray.empty]]⟩ ∧ σ 132120640 = some ⟨35, 2, [RP u]⟩ ∧ σ 132120785 = some ⟨9, 1, hh.map Str⟩) 6 ⟨0, lf, H0, by omega, hlf.mono (by omega), by omega, by simp, by simp, ?_⟩ ?_
  · simp -implicitDefEqProofs (disch := omega) only [go_sem, hk, hlH]
    simp [hk]
    try trace_state
  · rintro n E σ ⟨v, u, hh, hv, hu, hhl, hwk, hwh, h1, h2, h4, h5, h6', h7, s1, s2, s4, sH⟩
    simp -implicitDefEqProofs (disch := omega) only [go_sem, h1, h2, h4, h5, h6', h7, s1, s2, s4, sH]
    refine branch_mk (fun hc => ?_) (fun hc => ?_)
    · have hv6 : v < 6 := by omega
      have hg := htot _ (gd_mem a.p v (by omega))
      have hgv := List.drop_eq_getElem_cons (show v < a.p.length by omega)
      rw [← gd_get a.p v (by omega)] at hgv
      rw [hgv, walkT] at hwk
      rw [hgv, walkH] at hwh
      have hdd : k / 2 ^ v / 2 = k / 2 ^ (v + 1) := by rw [Nat.pow_succ, Nat.div_div_eq_div_mul]
      rw [hdd] at hwk hwh
      have hst := step_ok (h := k / 2 ^ v) hg hu (by omega)
      have hdl : k / 2 ^ v ≤ k := Nat.div_le_self _ _
      generalize hx : k / 2 ^ v = x at *
      have htm := tmod2 x
      have htd := tdiv2 x
      rw [hdd] at htd
      have hdl2 : k / 2 ^ (v + 1) ≤ k := Nat.div_le_self _ _
      generalize hx1 : k / 2 ^ (v + 1) = x1 at *
      generalize hga : gd a.p v = g at *
      have hcg := codeR_at hg (by omega)
      have hcu := codeR_at hu (by omega)
      have hzg := codeF_size hg
      have hzu := codeF_size hu
      have hj1 := joinR_at (hg.mono (C := 1000000000000000) (by omega)) (hu.mono (C := 1000000000000000) (by omega))
      have hj2 := joinR_at (hu.mono (C := 1000000000000000) (by omega)) (hg.mono (C := 1000000000000000) (by omega))
      have e1 : (⟨#[1]⟩ : ByteArray) = z1 := rfl
      have es1 : z1.size = 1 := rfl
      have hz1 : ∀ a : ByteArray, (z1 ++ a).size = 1 + a.size := fun a => ByteArray.size_append
      have hht : hh.take hh.length = hh := List.take_length
      simp -implicitDefEqProofs (disch := omega) only [go_sem, h1, h2, h4, h5, h6', h7, s1, s2, s4, sH, htm]
      refine branch_mk (fun he => ?_) (fun he => ?_)
      · have hx2 : ¬ x % 2 = 1 := by omega
        rw [show liftT x g u = joinT u g from if_neg hx2] at hwk hwh hst
        have hlb : liftB x g u = z1 ++ codeF u.1 u.2 ++ codeF g.1 g.2 := by rw [ba_assoc]; exact if_neg hx2
        simp -implicitDefEqProofs (disch := omega) only [go_sem, h1, h2, h4, h5, h6', h7, s1, s2, s4, sH, hga]
        refine callC_at hcu ?_
        simp -implicitDefEqProofs (disch := omega) only [go_sem, h1, h2, h4, h5, h6', h7, s1, s2, s4, sH, hga, e1, es1, hz1]
        refine callC_at hcg ?_
        rw [hlb] at hwh
        generalize codeF u.1 u.2 = cu at *
        generalize codeF g.1 g.2 = cg at *
        simp -implicitDefEqProofs (disch := omega) only [go_sem, h1, h2, h4, h5, h6', h7, s1, s2, s4, sH, hga, e1, es1, hz1, hht]
        generalize z1 ++ cu ++ cg = hb at *
        refine callC_at hj2 ?_ (h4 := .inr (dn_RP _))
        simp -implicitDefEqProofs (disch := omega) only [go_sem, h1, h2, h4, h5, h6', h7, s1, s2, s4, sH, hga, htd, and_self]
        refine againQ_mk (n - 1) (by omega) ⟨v + 1, joinT u g, hh ++ [hb], by omega, hst.mono (by push_cast; omega), by simp; omega, by rw [hx1]; exact hwk, by rw [hx1, hwh]; simp, ?_⟩
        simp -implicitDefEqProofs (disch := omega) only [go_sem, h1, h2, h4, h5, h6', h7, s1, s2, s4, sH, hga, htd, and_self, hx1]
        simp
      · have hx2 : x % 2 = 1 := by omega
        rw [show liftT x g u = joinT g u from if_pos hx2] at hwk hwh hst
        have hlb : liftB x g u = z1 ++ codeF g.1 g.2 ++ codeF u.1 u.2 := by rw [ba_assoc]; exact if_pos hx2
        simp -implicitDefEqProofs (disch := omega) only [go_sem, h1, h2, h4, h5, h6', h7, s1, s2, s4, sH, hga]
        refine callC_at hcg ?_
        simp -implicitDefEqProofs (disch := omega) only [go_sem, h1, h2, h4, h5, h6', h7, s1, s2, s4, sH, hga, e1, es1, hz1]
        refine callC_at hcu ?_
        rw [hlb] at hwh
        generalize codeF u.1 u.2 = cu at *
        generalize codeF g.1 g.2 = cg at *
        simp -implicitDefEqProofs (disch := omega) only [go_sem, h1, h2, h4, h5, h6', h7, s1, s2, s4, sH, hga, e1, es1, hz1, hht]
        generalize z1 ++ cg ++ cu = hb at *
        refine callC_at hj1 ?_ (h4 := .inr (dn_RP _))
        simp -implicitDefEqProofs (disch := omega) only [go_sem, h1, h2, h4, h5, h6', h7, s1, s2, s4, sH, hga, htd, and_self]
        refine againQ_mk (n - 1) (by omega) ⟨v + 1, joinT g u, hh ++ [hb], by omega, hst.mono (by push_cast; omega), by simp; omega, by rw [hx1]; exact hwk, by rw [hx1, hwh]; simp, ?_⟩
        simp -implicitDefEqProofs (disch := omega) only [go_sem, h1, h2, h4, h5, h6', h7, s1, s2, s4, sH, hga, htd, and_self, hx1]
        simp
    · obtain rfl : v = 6 := by omega
      rw [List.drop_of_length_le (by omega)] at hwk hwh
      rw [hwk, hwh]
      simp only [walkT, walkH, List.append_nil]
      have hht : hh.take hh.length = hh := List.take_length
      show awpC _ _ _ _ _
      simp -implicitDefEqProofs (disch := omega) only [go_sem, h1, h2, h4, h5, h6', h7, s1, s2, s4, sH, hht]
      simp -implicitDefEqProofs (disch := omega) only [go_sem, h1, h2, h4, h5, h6', h7, s1, s2, s4, sH, hht, Tryd.results62]
theorem hashed_ev (a : Acc) (hl : a.l.length ≤ 9223372036854775807) (hp : a.p.length ≤ 9223372036854775807) (hpl : ∀ t ∈ a.p, t.1.length ≤ 9223372036854775807) : Ev Tryd.prog 34 [AP a] (SLs (hashedF a)) := by
  unfold hashedF
  cases ha : accOK a
  · refine ev_sl (r := .new 9 1 []) ?_ _
    refine ev_of Tryd.func34 rfl (by kernel_rfl) mo (Nat.le_of_ble_eq_true rfl) ?_
    have hf := formed_ev a hl hp hpl
    rw [ha] at hf
    simp -implicitDefEqProofs (disch := omega) only [go_sem, Tryd.ntmps34]
    refine callC_at hf ?_
    simp -implicitDefEqProofs (disch := omega) only [go_sem]
    simp -implicitDefEqProofs (disch := omega) only [go_sem, Tryd.results34]
  · rw [if_pos rfl]
    refine ev_of Tryd.func34 rfl (by kernel_rfl) mo (Nat.le_of_ble_eq_true rfl) ?_
    have hf := formed_ev a hl hp hpl
    rw [ha] at hf
    have hw := walkR_ev a ha
    generalize leafH a.s a.l ++ walkH a.h.toNat a.p (leafT a.s a.l) = H at *
    simp -implicitDefEqProofs (disch := omega) only [go_sem, Tryd.ntmps34]
    refine callC_at hf ?_
    simp -implicitDefEqProofs (disch := omega) only [go_sem]
    refine callC_at hw ?_
    simp -implicitDefEqProofs (disch := omega) only [go_sem]
    simp -implicitDefEqProofs (disch := omega) only [go_sem, Tryd.results34]
end Go.Proofs.YtgbcfpcjljhijaaDoor

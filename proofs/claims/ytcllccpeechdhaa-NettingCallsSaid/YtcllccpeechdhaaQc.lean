/- Chapter 39, NettingCalls: for every input the law returns true, and each argument reads afterwards as it read before. -/
import Derived.Test.YtcllccpeechdhaaKH
import Derived.Test.YtcllccpeechdhaaRows
set_option linter.unusedVariables false
set_option linter.unusedSimpArgs false
set_option maxRecDepth 100000
namespace Go.Proofs.Ytcllccpeechdhaa
open Go.Vai Go Go.Proofs
theorem pt_step (T : Tf) (z : Int) (cs : List Q4) (w a : Int) (i : Nat) : ptF T z cs w a (i + 1) = (ptF T z cs w a i ++ oneD (frF (gd cs i)) (toF (gd cs i)) (amtF T z (durA (gd cs i).c) (midF cs w a i))) ++ oneD (frF (gd cs i)) (toF (gd cs i)) (amtF T z (midF cs w a i) (durA (gd cs i).c + durL (gd cs i).d)) := rfl
theorem wh_step (T : Tf) (z : Int) (cs : List Q4) (i : Nat) : whF T z cs (i + 1) = whF T z cs i ++ oneD (frF (gd cs i)) (toF (gd cs i)) (amtF T z (durA (gd cs i).c) (durA (gd cs i).c + durL (gd cs i).d)) := rfl
def stC (T : Tf) (z : Int) (cs : List Q4) (w a : Int) (n i : Nat) (W P : List Deb) (E : Env) (σ : Store) : Prop :=
  E 3 = QL cs ∧ E 4 = I w ∧ E 5 = I a ∧ E 13 = .ptr 8388816 2 0 0 ∧ E 14 = I z ∧ E 15 = .own 8388848 3 0 W.length ∧ E 16 = .own 8388864 3 0 P.length ∧ E 17 = I n ∧ E 18 = I i ∧
    σ 8388816 = some ⟨26, 2, [TF T]⟩ ∧ σ 8388848 = some ⟨39, 3, W.map DP⟩ ∧ σ 8388864 = some ⟨39, 3, P.map DP⟩
def stD (T : Tf) (z : Int) (cs : List Q4) (w a : Int) (n i : Nat) (W P : List Deb) (u v D L : Int) (E : Env) (σ : Store) : Prop :=
  stC T z cs w a n i W P E σ ∧ E 19 = I u ∧ E 20 = I v ∧ E 21 = .ptr 8388944 2 0 0 ∧ σ 8388944 = some ⟨33, 2, [SP2 D (D + L)]⟩
theorem ends_ev {W P : List Deb} (hW : debtsF W 1000000000 = true) (hP : debtsF P 1000000000 = true) (hb : balF W = balF P) (hk : bookF W = bookF P) :
    ∃ b r, b.length = 8 ∧ r.length ≤ 64 ∧ Ev Try.prog 10 [DL W] (.tup [.new 3 1 (b.map I), Er 0]) ∧ Ev Try.prog 10 [DL P] (.tup [.new 3 1 (b.map I), Er 0]) ∧
      Ev Try.prog 11 [DL W] (.tup [.new 39 3 (r.map DP), Er 0]) ∧ Ev Try.prog 11 [DL P] (.tup [.new 39 3 (r.map DP), Er 0]) ∧
      Ev Try.prog 12 [SL b, SL b] (B true) ∧ Ev Try.prog 13 [DL r, DL r] (B true) := by
  have h1 := bal_valid hW
  have h2 := bal_valid hP
  have h3 := round_valid hW
  have h4 := round_valid hP
  rw [← hb] at h2
  rw [← hk] at h4
  have hl : (balF W).length = 8 := balN_length W _
  have hr : (lstF (rndF (bookF W))).length ≤ 64 := lstF_length _
  have h5 := ints_ev (balF W) (balF W) (by omega) (by omega)
  have h6 := same_ev (lstF (rndF (bookF W))) (lstF (rndF (bookF W))) (by omega) (by omega)
  rw [decide_eq_true rfl] at h5 h6
  exact ⟨_, _, hl, hr, h1, h2, h3, h4, h5, h6⟩
set_option maxHeartbeats 4000000 in
theorem calls_ev (b : Int) (x : List Q4) (off : Int) (cs : List Q4) (w a : Int) (hb : R64 b) (hn : x.length ≤ 9223372036854775807) (hx : ∀ q ∈ x, q.ok) (ho : R64 off) (hcn : cs.length ≤ 9223372036854775807) (hcs : ∀ q ∈ cs, q.ok) (hw : R64 w) (ha : R64 a) :
    Ev Try.prog 3 [I b, QL x, I off, QL cs, I w, I a] (B true) := by
  have c1 := madeT_ev b x hb hx hn
  have c2 := zoned_ev off ho
  have hz := zonedF_ok off
  have hT := madeT_good b x
  have hwd := fun n (hn : n ≤ 10) => wh_debts b x (zonedF off) cs (i := n) hn
  have hpd := fun p n (hn : n ≤ 10) => pt_debts b x (zonedF off) cs p a (i := n) hn
  have hbl := fun p n (hn : n ≤ 10) => pt_bal b x (zonedF off) cs p a (i := n) hn
  have hbk := fun p n => pt_book b x (zonedF off) cs p a n
  have hwl := fun n => wh_len (zonedF off) cs (madeT b x) n
  have hpl := fun p n => pt_len (zonedF off) cs p a (madeT b x) n
  have hai := fun {f t : Int} (h0 : 0 ≤ f) (h : f ≤ t) (h1 : t ≤ f + 345600) => amt_in b x (zonedF off) h0 h h1
  generalize madeT b x = T at *
  generalize zonedF off = z at *
  refine ev_of Try.func3 rfl (by kernel_rfl) mo (Nat.le_of_ble_eq_true rfl) ?_
  simp -implicitDefEqProofs (disch := omega) only [go_sem, ↓reduceIte, Nat.reduceEqDiff, Nat.reduceMul, Nat.reduceAdd, Nat.reduceDiv, Nat.reduceBEq, Nat.reduceLeDiff, Int.reduceToNat, Int.reduceNe, Int.reduceEq, Int.reduceLT, Int.reduceLE, Int.reduceBEq, Int.reduceBNe, ne_eq, not_true_eq_false, not_false_eq_true, decide_true, decide_false, List.length_map, Try.ntmps3]
  refine callC_at sane_ev ?_
  simp -implicitDefEqProofs (disch := omega) only [go_sem, ↓reduceIte, Nat.reduceEqDiff, Nat.reduceMul, Nat.reduceAdd, Nat.reduceDiv, Nat.reduceBEq, Nat.reduceLeDiff, Int.reduceToNat, Int.reduceNe, Int.reduceEq, Int.reduceLT, Int.reduceLE, Int.reduceBEq, Int.reduceBNe, ne_eq, not_true_eq_false, not_false_eq_true, decide_true, decide_false, List.length_map]
  refine callC_at c1 ?_
  simp -implicitDefEqProofs (disch := omega) only [go_sem, ↓reduceIte, Nat.reduceEqDiff, Nat.reduceMul, Nat.reduceAdd, Nat.reduceDiv, Nat.reduceBEq, Nat.reduceLeDiff, Int.reduceToNat, Int.reduceNe, Int.reduceEq, Int.reduceLT, Int.reduceLE, Int.reduceBEq, Int.reduceBNe, ne_eq, not_true_eq_false, not_false_eq_true, decide_true, decide_false, List.length_map]
  refine callC_at c2 ?_
  simp -implicitDefEqProofs (disch := omega) only [go_sem, ↓reduceIte, Nat.reduceEqDiff, Nat.reduceMul, Nat.reduceAdd, Nat.reduceDiv, Nat.reduceBEq, Nat.reduceLeDiff, Int.reduceToNat, Int.reduceNe, Int.reduceEq, Int.reduceLT, Int.reduceLE, Int.reduceBEq, Int.reduceBNe, ne_eq, not_true_eq_false, not_false_eq_true, decide_true, decide_false, List.length_map]
  obtain ⟨n, hnn⟩ : ∃ n : Nat, min cs.length 10 = n := ⟨_, rfl⟩
  have hmin : min (cs.length : Int) 10 = n := by omega
  obtain ⟨p, hp⟩ : ∃ p, (0 < n → Ev Try.prog 7 [I w, I n] (I p)) := ⟨pickF w n, fun h => pick39_ev w n hw (by omega)⟩
  simp -implicitDefEqProofs (disch := omega) only [go_sem, ↓reduceIte, Nat.reduceEqDiff, Nat.reduceMul, Nat.reduceAdd, Nat.reduceDiv, Nat.reduceBEq, Nat.reduceLeDiff, Int.reduceToNat, Int.reduceNe, Int.reduceEq, Int.reduceLT, Int.reduceLE, Int.reduceBEq, Int.reduceBNe, ne_eq, not_true_eq_false, not_false_eq_true, decide_true, decide_false, List.length_map, hmin]
  refine loopC_mk (fun m E σ => ∃ i : Nat, i + m = n ∧ stC T z cs w a n i (whF T z cs i) (ptF T z cs p a i) E σ) n ⟨0, by omega, ?_⟩ ?_
  · simp -implicitDefEqProofs (disch := omega) only [go_sem, ↓reduceIte, Nat.reduceEqDiff, Nat.reduceMul, Nat.reduceAdd, Nat.reduceDiv, Nat.reduceBEq, Nat.reduceLeDiff, Int.reduceToNat, Int.reduceNe, Int.reduceEq, Int.reduceLT, Int.reduceLE, Int.reduceBEq, Int.reduceBNe, ne_eq, not_true_eq_false, not_false_eq_true, decide_true, decide_false, List.length_map, whF, ptF, stC]
    try rfl
  rintro m E σ ⟨i, hm, ⟨e3, e4, e5, e13, e14, e15, e16, e17, e18, m13, m15, m16⟩⟩
  simp -implicitDefEqProofs (disch := omega) only [go_sem, ↓reduceIte, Nat.reduceEqDiff, Nat.reduceMul, Nat.reduceAdd, Nat.reduceDiv, Nat.reduceBEq, Nat.reduceLeDiff, Int.reduceToNat, Int.reduceNe, Int.reduceEq, Int.reduceLT, Int.reduceLE, Int.reduceBEq, Int.reduceBNe, ne_eq, not_true_eq_false, not_false_eq_true, decide_true, decide_false, List.length_map, e3, e4, e5, e13, e14, e15, e16, e17, e18, m13, m15, m16]
  refine branch_mk (fun hc => ?_) (fun hc => ?_)
  · have hi : i < n := by omega
    have hq := hcs _ (gd_mem cs i (by omega))
    obtain ⟨q1, q2, q3, q4⟩ := hq
    have a1 := pickF_in (c := (gd cs i).a) (n := 8) (by omega)
    have a2 := pickF_in (c := (gd cs i).b) (n := 7) (by omega)
    have a3 := durA_in (gd cs i).c
    have a4 := durL_in (gd cs i).d
    have a5 := pickF_in (c := a) (n := durL (gd cs i).d + 1) (by omega)
    have a6 := midF_in cs p a i
    have d1 := pick39_ev (gd cs i).a 8 q1 (by omega)
    have d2 := pick39_ev (gd cs i).b 7 q2 (by omega)
    have d3 := during_ev (gd cs i).c (gd cs i).d q3 q4
    have d4 := pick39_ev a (durL (gd cs i).d + 1) ha (by omega)
    have hpc := hp (by omega)
    have hws := wh_step T z cs i
    have hps := pt_step T z cs p a i
    have hl1 := hwl i
    have hl2 := hpl p i
    have hto : toF (gd cs i) = (pickF (gd cs i).a 8 + 1 + pickF (gd cs i).b 7).tmod 8 := rfl
    have hfr : frF (gd cs i) = pickF (gd cs i).a 8 := rfl
    have hmid : midF cs p a i = if (i : Int) = p then durA (gd cs i).c + pickF a (durL (gd cs i).d + 1) else durA (gd cs i).c + durL (gd cs i).d := rfl
    have s0 : spellF (durA (gd cs i).c) (durA (gd cs i).c + durL (gd cs i).d) = true := spellF_iff.2 (by omega)
    have s1 : spellF (durA (gd cs i).c) (midF cs p a i) = true := spellF_iff.2 (by omega)
    have s2 : spellF (midF cs p a i) (durA (gd cs i).c + durL (gd cs i).d) = true := spellF_iff.2 (by omega)
    have am0 := amount_ev T z _ _ hT hz s0
    have am1 := amount_ev T z _ _ hT hz s1
    have am2 := amount_ev T z _ _ hT hz s2
    have ai0 := hai (f := durA (gd cs i).c) (t := durA (gd cs i).c + durL (gd cs i).d) (by omega) (by omega) (by omega)
    have ai1 := hai (f := durA (gd cs i).c) (t := midF cs p a i) (by omega) (by omega) (by omega)
    have ai2 := hai (f := midF cs p a i) (t := durA (gd cs i).c + durL (gd cs i).d) (by omega) (by omega) (by omega)
    generalize amtF T z (durA (gd cs i).c) (durA (gd cs i).c + durL (gd cs i).d) = A0 at *
    generalize amtF T z (durA (gd cs i).c) (midF cs p a i) = A1 at *
    generalize amtF T z (midF cs p a i) (durA (gd cs i).c + durL (gd cs i).d) = A2 at *
    rw [hto, hfr] at hws hps
    clear hto hfr s0 s1 s2
    generalize midF cs p a i = M at *
    generalize pickF (gd cs i).a 8 = u1 at *
    generalize pickF (gd cs i).b 7 = u2 at *
    generalize pickF a (durL (gd cs i).d + 1) = u3 at *
    generalize durA (gd cs i).c = D at *
    generalize durL (gd cs i).d = L at *
    generalize whF T z cs i = W at *
    generalize hW' : whF T z cs (i + 1) = W' at *
    generalize ptF T z cs p a i = P at *
    generalize hP' : ptF T z cs p a (i + 1) = P' at *
    have hDL : D + L - D = L := by omega
    have hu : 0 ≤ (u1 + 1 + u2).tmod 8 ∧ (u1 + 1 + u2).tmod 8 ≤ 7 := by rw [Int.tmod_eq_emod_of_nonneg (by omega)]; omega
    simp -implicitDefEqProofs (disch := omega) only [go_sem, ↓reduceIte, Nat.reduceEqDiff, Nat.reduceMul, Nat.reduceAdd, Nat.reduceDiv, Nat.reduceBEq, Nat.reduceLeDiff, Int.reduceToNat, Int.reduceNe, Int.reduceEq, Int.reduceLT, Int.reduceLE, Int.reduceBEq, Int.reduceBNe, ne_eq, not_true_eq_false, not_false_eq_true, decide_true, decide_false, List.length_map, e3, e4, e5, e13, e14, e15, e16, e17, e18, m13, m15, m16]
    refine callC_at d1 ?_
    simp -implicitDefEqProofs (disch := omega) only [go_sem, ↓reduceIte, Nat.reduceEqDiff, Nat.reduceMul, Nat.reduceAdd, Nat.reduceDiv, Nat.reduceBEq, Nat.reduceLeDiff, Int.reduceToNat, Int.reduceNe, Int.reduceEq, Int.reduceLT, Int.reduceLE, Int.reduceBEq, Int.reduceBNe, ne_eq, not_true_eq_false, not_false_eq_true, decide_true, decide_false, List.length_map, e3, e4, e5, e13, e14, e15, e16, e17, e18, m13, m15, m16]
    refine callC_at d2 ?_
    simp -implicitDefEqProofs (disch := omega) only [go_sem, ↓reduceIte, Nat.reduceEqDiff, Nat.reduceMul, Nat.reduceAdd, Nat.reduceDiv, Nat.reduceBEq, Nat.reduceLeDiff, Int.reduceToNat, Int.reduceNe, Int.reduceEq, Int.reduceLT, Int.reduceLE, Int.reduceBEq, Int.reduceBNe, ne_eq, not_true_eq_false, not_false_eq_true, decide_true, decide_false, List.length_map, e3, e4, e5, e13, e14, e15, e16, e17, e18, m13, m15, m16]
    generalize (u1 + 1 + u2).tmod 8 = v at *
    refine callC_at d3 ?_
    simp -implicitDefEqProofs (disch := omega) only [go_sem, ↓reduceIte, Nat.reduceEqDiff, Nat.reduceMul, Nat.reduceAdd, Nat.reduceDiv, Nat.reduceBEq, Nat.reduceLeDiff, Int.reduceToNat, Int.reduceNe, Int.reduceEq, Int.reduceLT, Int.reduceLE, Int.reduceBEq, Int.reduceBNe, ne_eq, not_true_eq_false, not_false_eq_true, decide_true, decide_false, List.length_map, e3, e4, e5, e13, e14, e15, e16, e17, e18, m13, m15, m16]
    refine callC_at am0 ?_
    simp -implicitDefEqProofs (disch := omega) only [go_sem, ↓reduceIte, Nat.reduceEqDiff, Nat.reduceMul, Nat.reduceAdd, Nat.reduceDiv, Nat.reduceBEq, Nat.reduceLeDiff, Int.reduceToNat, Int.reduceNe, Int.reduceEq, Int.reduceLT, Int.reduceLE, Int.reduceBEq, Int.reduceBNe, ne_eq, not_true_eq_false, not_false_eq_true, decide_true, decide_false, List.length_map, e3, e4, e5, e13, e14, e15, e16, e17, e18, m13, m15, m16]
    refine branch_r (by omega) ?_
    simp -implicitDefEqProofs (disch := omega) only [go_sem, ↓reduceIte, Nat.reduceEqDiff, Nat.reduceMul, Nat.reduceAdd, Nat.reduceDiv, Nat.reduceBEq, Nat.reduceLeDiff, Int.reduceToNat, Int.reduceNe, Int.reduceEq, Int.reduceLT, Int.reduceLE, Int.reduceBEq, Int.reduceBNe, ne_eq, not_true_eq_false, not_false_eq_true, decide_true, decide_false, List.length_map, e3, e4, e5, e13, e14, e15, e16, e17, e18, m13, m15, m16]
    refine branch_join (stD T z cs w a n i W' P u1 v D L) (fun h0 => ?_) (fun h0 => ?_) ?_
    · rw [oneD_pos h0] at hws
      simp -implicitDefEqProofs (disch := omega) only [go_sem, ↓reduceIte, Nat.reduceEqDiff, Nat.reduceMul, Nat.reduceAdd, Nat.reduceDiv, Nat.reduceBEq, Nat.reduceLeDiff, Int.reduceToNat, Int.reduceNe, Int.reduceEq, Int.reduceLT, Int.reduceLE, Int.reduceBEq, Int.reduceBNe, ne_eq, not_true_eq_false, not_false_eq_true, decide_true, decide_false, List.length_map, e3, e4, e5, e13, e14, e15, e16, e17, e18, m13, m15, m16, stD, stC]
      rw [hws]
      simp -implicitDefEqProofs (disch := omega) only [go_sem, ↓reduceIte, Nat.reduceEqDiff, Nat.reduceMul, Nat.reduceAdd, Nat.reduceDiv, Nat.reduceBEq, Nat.reduceLeDiff, Int.reduceToNat, Int.reduceNe, Int.reduceEq, Int.reduceLT, Int.reduceLE, Int.reduceBEq, Int.reduceBNe, ne_eq, not_true_eq_false, not_false_eq_true, decide_true, decide_false, List.length_map]
    · rw [oneD_none h0, List.append_nil] at hws
      rw [hws]
      simp -implicitDefEqProofs (disch := omega) only [go_sem, ↓reduceIte, Nat.reduceEqDiff, Nat.reduceMul, Nat.reduceAdd, Nat.reduceDiv, Nat.reduceBEq, Nat.reduceLeDiff, Int.reduceToNat, Int.reduceNe, Int.reduceEq, Int.reduceLT, Int.reduceLE, Int.reduceBEq, Int.reduceBNe, ne_eq, not_true_eq_false, not_false_eq_true, decide_true, decide_false, List.length_map, e3, e4, e5, e13, e14, e15, e16, e17, e18, m13, m15, m16, stD, stC]
    clear e3 e4 e5 e13 e14 e15 e16 e17 e18 m13 m15 m16 E σ
    rintro E σ ⟨⟨e3, e4, e5, e13, e14, e15, e16, e17, e18, m13, m15, m16⟩, e19, e20, e21, m21⟩
    simp -implicitDefEqProofs (disch := omega) only [go_sem, ↓reduceIte, Nat.reduceEqDiff, Nat.reduceMul, Nat.reduceAdd, Nat.reduceDiv, Nat.reduceBEq, Nat.reduceLeDiff, Int.reduceToNat, Int.reduceNe, Int.reduceEq, Int.reduceLT, Int.reduceLE, Int.reduceBEq, Int.reduceBNe, ne_eq, not_true_eq_false, not_false_eq_true, decide_true, decide_false, List.length_map, e3, e4, e5, e13, e14, e15, e16, e17, e18, m13, m15, m16, e19, e20, e21, m21]
    refine callC_at hpc ?_
    simp -implicitDefEqProofs (disch := omega) only [go_sem, ↓reduceIte, Nat.reduceEqDiff, Nat.reduceMul, Nat.reduceAdd, Nat.reduceDiv, Nat.reduceBEq, Nat.reduceLeDiff, Int.reduceToNat, Int.reduceNe, Int.reduceEq, Int.reduceLT, Int.reduceLE, Int.reduceBEq, Int.reduceBNe, ne_eq, not_true_eq_false, not_false_eq_true, decide_true, decide_false, List.length_map, e3, e4, e5, e13, e14, e15, e16, e17, e18, m13, m15, m16, e19, e20, e21, m21]
    refine branch_join (fun E σ => stD T z cs w a n i W' P u1 v D L E σ ∧ E 24 = I M) (fun h0 => ?_) (fun h0 => ?_) ?_
    · rw [if_pos h0] at hmid
      simp -implicitDefEqProofs (disch := omega) only [go_sem, ↓reduceIte, Nat.reduceEqDiff, Nat.reduceMul, Nat.reduceAdd, Nat.reduceDiv, Nat.reduceBEq, Nat.reduceLeDiff, Int.reduceToNat, Int.reduceNe, Int.reduceEq, Int.reduceLT, Int.reduceLE, Int.reduceBEq, Int.reduceBNe, ne_eq, not_true_eq_false, not_false_eq_true, decide_true, decide_false, List.length_map, e3, e4, e5, e13, e14, e15, e16, e17, e18, m13, m15, m16, e19, e20, e21, m21, stD, stC, hDL]
      refine callC_at d4 ?_
      simp -implicitDefEqProofs (disch := omega) only [go_sem, ↓reduceIte, Nat.reduceEqDiff, Nat.reduceMul, Nat.reduceAdd, Nat.reduceDiv, Nat.reduceBEq, Nat.reduceLeDiff, Int.reduceToNat, Int.reduceNe, Int.reduceEq, Int.reduceLT, Int.reduceLE, Int.reduceBEq, Int.reduceBNe, ne_eq, not_true_eq_false, not_false_eq_true, decide_true, decide_false, List.length_map, e3, e4, e5, e13, e14, e15, e16, e17, e18, m13, m15, m16, e19, e20, e21, m21, hmid]
    · rw [if_neg h0] at hmid
      simp -implicitDefEqProofs (disch := omega) only [go_sem, ↓reduceIte, Nat.reduceEqDiff, Nat.reduceMul, Nat.reduceAdd, Nat.reduceDiv, Nat.reduceBEq, Nat.reduceLeDiff, Int.reduceToNat, Int.reduceNe, Int.reduceEq, Int.reduceLT, Int.reduceLE, Int.reduceBEq, Int.reduceBNe, ne_eq, not_true_eq_false, not_false_eq_true, decide_true, decide_false, List.length_map, e3, e4, e5, e13, e14, e15, e16, e17, e18, m13, m15, m16, e19, e20, e21, m21, stD, stC, hmid]
    clear e3 e4 e5 e13 e14 e15 e16 e17 e18 m13 m15 m16 e19 e20 e21 m21 E σ
    rintro E σ ⟨⟨⟨e3, e4, e5, e13, e14, e15, e16, e17, e18, m13, m15, m16⟩, e19, e20, e21, m21⟩, e24⟩
    simp -implicitDefEqProofs (disch := omega) only [go_sem, ↓reduceIte, Nat.reduceEqDiff, Nat.reduceMul, Nat.reduceAdd, Nat.reduceDiv, Nat.reduceBEq, Nat.reduceLeDiff, Int.reduceToNat, Int.reduceNe, Int.reduceEq, Int.reduceLT, Int.reduceLE, Int.reduceBEq, Int.reduceBNe, ne_eq, not_true_eq_false, not_false_eq_true, decide_true, decide_false, List.length_map, e3, e4, e5, e13, e14, e15, e16, e17, e18, m13, m15, m16, e19, e20, e21, m21, e24]
    refine loopC_mk (fun m E σ => ∃ (k : Nat) (R : List Deb), k + m = 2 ∧ R.length ≤ 50 + k ∧ (k = 2 → R = P') ∧ (k = 1 → R ++ oneD u1 v A2 = P') ∧ (k = 0 → (R ++ oneD u1 v A1) ++ oneD u1 v A2 = P') ∧ stD T z cs w a n i W' R u1 v D L E σ ∧ E 127 = .own 8390640 2 0 2 ∧ E 128 = I 2 ∧ E 129 = I k ∧
      σ 8390640 = some ⟨33, 2, [SP2 D M, SP2 M (D + L)]⟩) 2 ⟨0, P, rfl, by omega, fun h => absurd h (by omega), fun h => absurd h (by omega), fun _ => hps.symm, ?_⟩ ?_
    · simp -implicitDefEqProofs (disch := omega) only [go_sem, ↓reduceIte, Nat.reduceEqDiff, Nat.reduceMul, Nat.reduceAdd, Nat.reduceDiv, Nat.reduceBEq, Nat.reduceLeDiff, Int.reduceToNat, Int.reduceNe, Int.reduceEq, Int.reduceLT, Int.reduceLE, Int.reduceBEq, Int.reduceBNe, ne_eq, not_true_eq_false, not_false_eq_true, decide_true, decide_false, List.length_map, e3, e4, e5, e13, e14, e15, e16, e17, e18, m13, m15, m16, e19, e20, e21, m21, stD, stC]
      exact ⟨rfl, rfl⟩
    clear e3 e4 e5 e13 e14 e15 e16 e17 e18 m13 m15 m16 e19 e20 e21 m21 e24 E σ
    rintro m' E σ ⟨k, R, hk, hR, r2, r1, r0, ⟨⟨e3, e4, e5, e13, e14, e15, e16, e17, e18, m13, m15, m16⟩, e19, e20, e21, m21⟩, e127, e128, e129, m127⟩
    simp -implicitDefEqProofs (disch := omega) only [go_sem, ↓reduceIte, Nat.reduceEqDiff, Nat.reduceMul, Nat.reduceAdd, Nat.reduceDiv, Nat.reduceBEq, Nat.reduceLeDiff, Int.reduceToNat, Int.reduceNe, Int.reduceEq, Int.reduceLT, Int.reduceLE, Int.reduceBEq, Int.reduceBNe, ne_eq, not_true_eq_false, not_false_eq_true, decide_true, decide_false, List.length_map, e3, e4, e5, e13, e14, e15, e16, e17, e18, m13, m15, m16, e19, e20, e21, m21, e127, e128, e129, m127]
    refine branch_mk (fun hc2 => ?_) (fun hc2 => ?_)
    · obtain ⟨f, t, A, R', hgd, hev, hA, hR', hRR⟩ : ∃ (f t A : Int) (R' : List Deb), ([SP2 D M, SP2 M (D + L)][k]? = some (SP2 f t)) ∧ Ev Try.prog 9 [TF T, I z, SP2 f t] (.tup [I A, I 0]) ∧ 0 ≤ A ∧ R' = R ++ oneD u1 v A ∧ (k + 1 = 2 → R' = P') ∧ (k + 1 = 1 → R' ++ oneD u1 v A2 = P') := by
        obtain rfl | rfl : k = 0 ∨ k = 1 := by omega
        · exact ⟨D, M, A1, _, rfl, am1, ai1.1, rfl, fun h => absurd h (by omega), fun _ => r0 rfl⟩
        · exact ⟨M, D + L, A2, _, rfl, am2, ai2.1, rfl, fun _ => r1 rfl, fun h => absurd h (by omega)⟩
      have hRl : R'.length ≤ R.length + 1 := by rw [hR', List.length_append]; have := oneD_len u1 v A; omega
      simp -implicitDefEqProofs (disch := omega) only [go_sem, ↓reduceIte, Nat.reduceEqDiff, Nat.reduceMul, Nat.reduceAdd, Nat.reduceDiv, Nat.reduceBEq, Nat.reduceLeDiff, Int.reduceToNat, Int.reduceNe, Int.reduceEq, Int.reduceLT, Int.reduceLE, Int.reduceBEq, Int.reduceBNe, ne_eq, not_true_eq_false, not_false_eq_true, decide_true, decide_false, List.length_map, e3, e4, e5, e13, e14, e15, e16, e17, e18, m13, m15, m16, e19, e20, e21, m21, e127, e128, e129, m127, hgd]
      refine callC_at hev ?_
      simp -implicitDefEqProofs (disch := omega) only [go_sem, ↓reduceIte, Nat.reduceEqDiff, Nat.reduceMul, Nat.reduceAdd, Nat.reduceDiv, Nat.reduceBEq, Nat.reduceLeDiff, Int.reduceToNat, Int.reduceNe, Int.reduceEq, Int.reduceLT, Int.reduceLE, Int.reduceBEq, Int.reduceBNe, ne_eq, not_true_eq_false, not_false_eq_true, decide_true, decide_false, List.length_map, e3, e4, e5, e13, e14, e15, e16, e17, e18, m13, m15, m16, e19, e20, e21, m21, e127, e128, e129, m127]
      refine branch_r (by omega) ?_
      simp -implicitDefEqProofs (disch := omega) only [go_sem, ↓reduceIte, Nat.reduceEqDiff, Nat.reduceMul, Nat.reduceAdd, Nat.reduceDiv, Nat.reduceBEq, Nat.reduceLeDiff, Int.reduceToNat, Int.reduceNe, Int.reduceEq, Int.reduceLT, Int.reduceLE, Int.reduceBEq, Int.reduceBNe, ne_eq, not_true_eq_false, not_false_eq_true, decide_true, decide_false, List.length_map, e3, e4, e5, e13, e14, e15, e16, e17, e18, m13, m15, m16, e19, e20, e21, m21, e127, e128, e129, m127]
      refine branch_mk (fun h0 => ?_) (fun h0 => ?_)
      · rw [oneD_pos h0] at hR'
        simp -implicitDefEqProofs (disch := omega) only [go_sem, ↓reduceIte, Nat.reduceEqDiff, Nat.reduceMul, Nat.reduceAdd, Nat.reduceDiv, Nat.reduceBEq, Nat.reduceLeDiff, Int.reduceToNat, Int.reduceNe, Int.reduceEq, Int.reduceLT, Int.reduceLE, Int.reduceBEq, Int.reduceBNe, ne_eq, not_true_eq_false, not_false_eq_true, decide_true, decide_false, List.length_map, e3, e4, e5, e13, e14, e15, e16, e17, e18, m13, m15, m16, e19, e20, e21, m21, e127, e128, e129, m127]
        refine againQ_mk (2 - (k + 1)) (by omega) ⟨k + 1, R', by omega, by omega, hRR.1, hRR.2, fun h => absurd h (by omega), ?_⟩
        rw [hR']
        simp -implicitDefEqProofs (disch := omega) only [go_sem, ↓reduceIte, Nat.reduceEqDiff, Nat.reduceMul, Nat.reduceAdd, Nat.reduceDiv, Nat.reduceBEq, Nat.reduceLeDiff, Int.reduceToNat, Int.reduceNe, Int.reduceEq, Int.reduceLT, Int.reduceLE, Int.reduceBEq, Int.reduceBNe, ne_eq, not_true_eq_false, not_false_eq_true, decide_true, decide_false, List.length_map, e3, e4, e5, e13, e14, e15, e16, e17, e18, m13, m15, m16, e19, e20, e21, m21, e127, e128, e129, m127, stD, stC]
        try rfl
      · rw [oneD_none h0, List.append_nil] at hR'
        simp -implicitDefEqProofs (disch := omega) only [go_sem, ↓reduceIte, Nat.reduceEqDiff, Nat.reduceMul, Nat.reduceAdd, Nat.reduceDiv, Nat.reduceBEq, Nat.reduceLeDiff, Int.reduceToNat, Int.reduceNe, Int.reduceEq, Int.reduceLT, Int.reduceLE, Int.reduceBEq, Int.reduceBNe, ne_eq, not_true_eq_false, not_false_eq_true, decide_true, decide_false, List.length_map, e3, e4, e5, e13, e14, e15, e16, e17, e18, m13, m15, m16, e19, e20, e21, m21, e127, e128, e129, m127]
        refine againQ_mk (2 - (k + 1)) (by omega) ⟨k + 1, R', by omega, by omega, hRR.1, hRR.2, fun h => absurd h (by omega), ?_⟩
        rw [hR']
        simp -implicitDefEqProofs (disch := omega) only [go_sem, ↓reduceIte, Nat.reduceEqDiff, Nat.reduceMul, Nat.reduceAdd, Nat.reduceDiv, Nat.reduceBEq, Nat.reduceLeDiff, Int.reduceToNat, Int.reduceNe, Int.reduceEq, Int.reduceLT, Int.reduceLE, Int.reduceBEq, Int.reduceBNe, ne_eq, not_true_eq_false, not_false_eq_true, decide_true, decide_false, List.length_map, e3, e4, e5, e13, e14, e15, e16, e17, e18, m13, m15, m16, e19, e20, e21, m21, e127, e128, e129, m127, stD, stC]
        try rfl
    · obtain rfl : k = 2 := by omega
      obtain rfl := r2 rfl
      simp -implicitDefEqProofs (disch := omega) only [go_sem, ↓reduceIte, Nat.reduceEqDiff, Nat.reduceMul, Nat.reduceAdd, Nat.reduceDiv, Nat.reduceBEq, Nat.reduceLeDiff, Int.reduceToNat, Int.reduceNe, Int.reduceEq, Int.reduceLT, Int.reduceLE, Int.reduceBEq, Int.reduceBNe, ne_eq, not_true_eq_false, not_false_eq_true, decide_true, decide_false, List.length_map, e3, e4, e5, e13, e14, e15, e16, e17, e18, m13, m15, m16, e19, e20, e21, m21, e127, e128, e129, m127]
      refine againQ_mk (n - (i + 1)) (by omega) ⟨i + 1, by omega, ?_⟩
      rw [hW', hP']
      simp -implicitDefEqProofs (disch := omega) only [go_sem, ↓reduceIte, Nat.reduceEqDiff, Nat.reduceMul, Nat.reduceAdd, Nat.reduceDiv, Nat.reduceBEq, Nat.reduceLeDiff, Int.reduceToNat, Int.reduceNe, Int.reduceEq, Int.reduceLT, Int.reduceLE, Int.reduceBEq, Int.reduceBNe, ne_eq, not_true_eq_false, not_false_eq_true, decide_true, decide_false, List.length_map, e3, e4, e5, e13, e14, e15, e16, e17, e18, m13, m15, m16, e19, e20, e21, m21, stC]
      try rfl
  · obtain rfl : i = n := by omega
    obtain ⟨bb, r, hbb, hr, k1, k2, k3, k4, k5, k6⟩ := ends_ev (hwd i (by omega)) (hpd p i (by omega)) (hbl p i (by omega)) (hbk p i)
    generalize whF T z cs i = W at *
    generalize ptF T z cs p a i = P at *
    simp -implicitDefEqProofs (disch := omega) only [go_sem, ↓reduceIte, Nat.reduceEqDiff, Nat.reduceMul, Nat.reduceAdd, Nat.reduceDiv, Nat.reduceBEq, Nat.reduceLeDiff, Int.reduceToNat, Int.reduceNe, Int.reduceEq, Int.reduceLT, Int.reduceLE, Int.reduceBEq, Int.reduceBNe, ne_eq, not_true_eq_false, not_false_eq_true, decide_true, decide_false, List.length_map, e3, e4, e5, e13, e14, e15, e16, e17, e18, m13, m15, m16]
    refine callC_at k1 ?_
    simp -implicitDefEqProofs (disch := omega) only [go_sem, ↓reduceIte, Nat.reduceEqDiff, Nat.reduceMul, Nat.reduceAdd, Nat.reduceDiv, Nat.reduceBEq, Nat.reduceLeDiff, Int.reduceToNat, Int.reduceNe, Int.reduceEq, Int.reduceLT, Int.reduceLE, Int.reduceBEq, Int.reduceBNe, ne_eq, not_true_eq_false, not_false_eq_true, decide_true, decide_false, List.length_map, e3, e4, e5, e13, e14, e15, e16, e17, e18, m13, m15, m16, hbb]
    refine callC_at k2 ?_
    simp -implicitDefEqProofs (disch := omega) only [go_sem, ↓reduceIte, Nat.reduceEqDiff, Nat.reduceMul, Nat.reduceAdd, Nat.reduceDiv, Nat.reduceBEq, Nat.reduceLeDiff, Int.reduceToNat, Int.reduceNe, Int.reduceEq, Int.reduceLT, Int.reduceLE, Int.reduceBEq, Int.reduceBNe, ne_eq, not_true_eq_false, not_false_eq_true, decide_true, decide_false, List.length_map, e3, e4, e5, e13, e14, e15, e16, e17, e18, m13, m15, m16, hbb]
    refine callC_at k3 ?_
    simp -implicitDefEqProofs (disch := omega) only [go_sem, ↓reduceIte, Nat.reduceEqDiff, Nat.reduceMul, Nat.reduceAdd, Nat.reduceDiv, Nat.reduceBEq, Nat.reduceLeDiff, Int.reduceToNat, Int.reduceNe, Int.reduceEq, Int.reduceLT, Int.reduceLE, Int.reduceBEq, Int.reduceBNe, ne_eq, not_true_eq_false, not_false_eq_true, decide_true, decide_false, List.length_map, e3, e4, e5, e13, e14, e15, e16, e17, e18, m13, m15, m16, hbb]
    refine callC_at k4 ?_
    simp -implicitDefEqProofs (disch := omega) only [go_sem, ↓reduceIte, Nat.reduceEqDiff, Nat.reduceMul, Nat.reduceAdd, Nat.reduceDiv, Nat.reduceBEq, Nat.reduceLeDiff, Int.reduceToNat, Int.reduceNe, Int.reduceEq, Int.reduceLT, Int.reduceLE, Int.reduceBEq, Int.reduceBNe, ne_eq, not_true_eq_false, not_false_eq_true, decide_true, decide_false, List.length_map, e3, e4, e5, e13, e14, e15, e16, e17, e18, m13, m15, m16, hbb]
    refine callC_at k5 ?_
    simp -implicitDefEqProofs (disch := omega) only [go_sem, ↓reduceIte, Nat.reduceEqDiff, Nat.reduceMul, Nat.reduceAdd, Nat.reduceDiv, Nat.reduceBEq, Nat.reduceLeDiff, Int.reduceToNat, Int.reduceNe, Int.reduceEq, Int.reduceLT, Int.reduceLE, Int.reduceBEq, Int.reduceBNe, ne_eq, not_true_eq_false, not_false_eq_true, decide_true, decide_false, List.length_map, e3, e4, e5, e13, e14, e15, e16, e17, e18, m13, m15, m16, hbb]
    refine callC_at k6 ?_
    simp -implicitDefEqProofs (disch := omega) only [go_sem, ↓reduceIte, Nat.reduceEqDiff, Nat.reduceMul, Nat.reduceAdd, Nat.reduceDiv, Nat.reduceBEq, Nat.reduceLeDiff, Int.reduceToNat, Int.reduceNe, Int.reduceEq, Int.reduceLT, Int.reduceLE, Int.reduceBEq, Int.reduceBNe, ne_eq, not_true_eq_false, not_false_eq_true, decide_true, decide_false, List.length_map, e3, e4, e5, e13, e14, e15, e16, e17, e18, m13, m15, m16, hbb, Try.results3]
end Go.Proofs.Ytcllccpeechdhaa
set_option maxRecDepth 100000
namespace Go.Proofs.Ytcllccpeechdhaa
open Go.Vai Go Go.Proofs Go.RowKit
theorem own8 : ownKnob Try.checked.prog.godebug = none := by kernel_rfl
theorem laidOut8 : laidOutB Try.checked.prog = true := by kernel_rfl
section
variable {H : Type} {enc : TypeId × Value → H} {w : World}
def OI (a : AV) : Prop := ∃ n, R64 n ∧ a = I n
theorem wf64 {n : Int} : (Lit.int .i64 n).wf = true ↔ R64 n := by
  have h1 : IntKind.i64.min = -9223372036854775808 := by decide
  have h2 : IntKind.i64.max = 9223372036854775807 := by decide
  simp [Lit.wf, R64, h1, h2]
theorem o_int {t : TypeId} (ht : Try.prog.underlying t = some (.int .i64)) : Opens Try.prog enc w t OI :=
  (opens_int ht).mono (fun a ⟨n, h, e⟩ => ⟨n, wf64.1 h, e⟩) fun a ⟨n, h, e⟩ => ⟨n, wf64.2 h, e⟩
def OQ (a : AV) : Prop := ∃ l : List Q4, l.length ≤ 9223372036854775807 ∧ (∀ x ∈ l, x.ok) ∧ a = QL l
def OQ1 (a : AV) : Prop := ∃ x : Q4, x.ok ∧ a = QP x
theorem o_four : Opens Try.prog enc w 31 OQ1 :=
  (opens_array (T := Int) (q := R64) (f := I) (e := 3) (n := 4) (sz := 1) (by kernel_rfl) (by kernel_rfl) (by kernel_rfl) (o_int (by kernel_rfl))).mono
    (fun a ⟨l, h, h1, e⟩ => by
      match l, h with
      | [x, y, z, u], _ => exact ⟨⟨x, y, z, u⟩, ⟨h1 x (by simp), h1 y (by simp), h1 z (by simp), h1 u (by simp)⟩, e⟩)
    fun a ⟨x, h, e⟩ => ⟨[x.a, x.b, x.c, x.d], rfl, by obtain ⟨h1, h2, h3, h4⟩ := h; simp [h1, h2, h3, h4], e⟩
theorem o_fours : Opens Try.prog enc w 22 OQ :=
  (opens_slice (T := Q4) (q := Q4.ok) (f := QP) (e := 31) (sz := 4) (by kernel_rfl) (by kernel_rfl) (by decide) o_four).mono
    (fun a ⟨l, h, h1, e⟩ => ⟨l, h, h1, e⟩) fun a ⟨l, h, h1, e⟩ => ⟨l, h, h1, e⟩
end
theorem nettingCalls_lifted (os : Os) (started : os.Started) (H : Type) (enc : TypeId × Value → H) :
    ReturnsInHanded {} Try.checked os 3 .any (Rows.nettingCallsSpec.pre6 enc Try.prog Try.f3 [] false) (Rows.nettingCallsSpec.post enc Try.prog Try.f3 false true false false) :=
  lifted (C := Try.checked) (tb := 4) (ps := [OI, OQ, OI, OQ, OI, OI]) own8 started (by kernel_rfl) Try.func3
    (ChangeSpec.witness6 (enc := enc) (C := Try.checked) false ⟨#[], #[.int .i64 0, .slice none 0 0, .int .i64 0, .slice none 0 0, .int .i64 0, .int .i64 0], []⟩ 8 (by kernel_rfl) (by kernel_rfl) (by kernel_rfl) (by kernel_rfl))
    laidOut8 (by kernel_rfl) (by kernel_rfl) (by kernel_rfl) rfl (len_6 fun _ _ _ _ _ _ => rfl)
    (fun w => ⟨o_int (by kernel_rfl), o_fours, o_int (by kernel_rfl), o_fours, o_int (by kernel_rfl), o_int (by kernel_rfl), trivial⟩)
    (allP_6 fun a0 a1 a2 a3 a4 a5 h0 h1 h2 h3 h4 h5 => by
      obtain ⟨x0, hx0, rfl⟩ := h0
      obtain ⟨x1, hx1, hr1, rfl⟩ := h1
      obtain ⟨x2, hx2, rfl⟩ := h2
      obtain ⟨x3, hx3, hr3, rfl⟩ := h3
      obtain ⟨x4, hx4, rfl⟩ := h4
      obtain ⟨x5, hx5, rfl⟩ := h5
      exact calls_ev x0 x1 x2 x3 x4 x5 hx0 hx1 hr1 hx2 hx3 hr3 hx4 hx5)
theorem nettingCalls_holds : Rows.NettingCallsSaid :=
  OpenClaim.holds_of_wide 3 Try.f3 rfl rfl rfl rfl rfl rfl rfl ⟨rfl, rfl, rfl, rfl, rfl⟩ rfl rfl rfl rfl rfl (by kernel_rfl) Try.func3 (by kernel_rfl)
    (of_decide_eq_true (by kernel_rfl)) (by unfold Func.isWrapper; first | (rw [if_pos (by decide +kernel)]; kernel_rfl) | (rw [if_neg (by decide +kernel)]; exact ⟨rfl, rfl⟩))
    (fun os started H enc _ => nettingCalls_lifted os started H enc)
#print axioms nettingCalls_holds
end Go.Proofs.Ytcllccpeechdhaa

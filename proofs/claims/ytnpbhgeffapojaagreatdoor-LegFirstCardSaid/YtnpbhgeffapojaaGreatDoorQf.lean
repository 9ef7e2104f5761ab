/- The law LegFirst: the row and the card. -/
import Derived.Test.YtnpbhgeffapojaaGreatDoorKI
set_option linter.all false
set_option maxRecDepth 100000
namespace Go.Proofs.YtnpbhgeffapojaaGreatDoor
open Go.Proofs.Tryz
open Go.Vai Go Go.Proofs
def entF (n : Int) : ByteArray := strOfNums [97 + (Jaf n 676).tmod 26] ++ (strOfNums [97 + (Jaf n 676).tdiv 26]).extract 0 ((Jaf n 676).tmod 2).toNat
theorem entF_size (n : Int) : (entF n).size <= 2 := by
  have h1 : (strOfNums [97 + (Jaf n 676).tmod 26]).size = 1 := by rw [strOfNums_size]; rfl
  have h2 : (strOfNums [97 + (Jaf n 676).tdiv 26]).size = 1 := by rw [strOfNums_size]; rfl
  unfold entF; rw [L0T, ByteArray.size_extract]
  omega
set_option maxHeartbeats 4000000 in
theorem entry_ev (n : Int) (hn : R64 n) : Ev prog 41 [I n] (Str (entF n)) := by
  have p1 := Jai (c := n) (n := 676) (by omega)
  have c1 := JeM n 676 hn (by omega)
  have hE : entF n = strOfNums [97 + (Jaf n 676).tmod 26] ++ (strOfNums [97 + (Jaf n 676).tdiv 26]).extract 0 ((Jaf n 676).tmod 2).toNat := rfl
  rw [hE]; generalize Jaf n 676 = c at *
  have a1 : c.tmod 26 = c % 26 := L13 (by omega)
  have b1 : c.tdiv 26 = c / 26 := L1g (by omega)
  have d1 : c.tmod 2 = c % 2 := L13 (by omega)
  have a2 : 0 <= c.tmod 26 /\ c.tmod 26 < 26 := by omega
  have b2 : 0 <= c.tdiv 26 /\ c.tdiv 26 < 26 := by omega
  have d2 : 0 <= c.tmod 2 /\ c.tmod 2 < 2 := by omega
  have hw : IntKind.i64.wrap (c.tdiv 26) = c.tdiv 26 := Jb0 (by omega)
  clear a1 b1 d1 hE; generalize ha : c.tmod 26 = a at *; generalize hb : c.tdiv 26 = b at *; generalize hd2x : c.tmod 2 = d at *
  have hw8a : IntKind.u8.wrap (97 + a) = 97 + a := by simp [IntKind.wrap, IntKind.bits, IntKind.signed]; omega
  have hw8b : IntKind.u8.wrap (97 + b) = 97 + b := by simp [IntKind.wrap, IntKind.bits, IntKind.signed]; omega
  have hsz : (strOfNums [97 + b]).size = 1 := by rw [strOfNums_size]; rfl
  have hsz2 : (strOfNums [97 + a]).size + ((strOfNums [97 + b]).extract 0 d.toNat).size <= 9223372036854775807 := by
    have h1 : (strOfNums [97 + a]).size = 1 := by rw [strOfNums_size]; rfl
    rw [ByteArray.size_extract, h1, hsz]; omega
  have ht1 : ∀ l : List AV, l.length = 1 -> l.take 1 = l := fun l h => L0a (by omega)
  refine EW [2] func41 ?_
  simp -implicitDefEqProofs (disch := omega) only [go_sem, ntmps41]
  refine Jaa c1 ?_
  simp -implicitDefEqProofs (disch := omega) only [go_sem]
  refine JpE (fun D E σ => E 3 = I c /\ (D 4 = true -> σ 88080544 = some ⟨5, 1, [Y (97 + a)]⟩) /\ (D 4 = true -> E 10 = .own 88080544 1 0 1) /\ (D 10 = true -> σ 88080640 = some ⟨5, 1, [Y (97 + b)]⟩) /\ (D 10 = true -> E 16 = .own 88080640 1 0 1) /\ (D 0 = true -> E 6 = I c) /\ (D 1 = true -> E 7 = I a) /\ (D 2 = true -> E 8 = I (97 + a)) /\ (D 3 = true -> E 9 = Y (97 + a)) /\ (D 5 = true -> E 11 = Str (strOfNums [97 + a])) /\ (D 6 = true -> E 12 = I c) /\ (D 7 = true -> E 13 = I b) /\ (D 8 = true -> E 14 = I (97 + b)) /\ (D 9 = true -> E 15 = Y (97 + b)) /\ (D 11 = true -> E 17 = Str (strOfNums [97 + b])) /\ (D 12 = true -> E 18 = I c) /\ (D 13 = true -> E 19 = I d) /\ (D 14 = true -> E 20 = Str ((strOfNums [97 + b]).extract 0 d.toNat)) /\ (D 15 = true -> E 21 = Str (strOfNums [97 + a] ++ (strOfNums [97 + b]).extract 0 d.toNat)) /\ (D 16 = true -> E 2 = Str (strOfNums [97 + a] ++ (strOfNums [97 + b]).extract 0 d.toNat))) [5, 11] ?_ ?_ ?_ ?_
  . simp -implicitDefEqProofs (disch := omega) only [go_sem, ha, hb, hd2x, hw8a, hw8b, hsz, hsz2, ht1]; try simp
  . simp only [Ji0, List.contains_cons, List.contains_nil, Nat.reduceBEq, Nat.reduceAdd, beq_self_eq_true, L12, L1n, Bool.true_or, Bool.or_true, Bool.or_self, Bool.true_eq_false, L0D, false_implies, true_implies, depK, Region.binds, eq_self, forall_const, and_true]
    repeat' apply And.intro
    all_goals try exact trivial
    all_goals
      rintro D E σ ⟨e3, m0_0, n0_0, m1_0, n1_0, j0, j1, j2, j3, j5, j6, j7, j8, j9, j11, j12, j13, j14, j15, j16⟩ hd
      simp -implicitDefEqProofs (disch := first | assumption | (simp only [hd]; done) | omega) only [go_sem, e3, m0_0, n0_0, m1_0, n1_0, j0, j1, j2, j3, j5, j6, j7, j8, j9, j11, j12, j13, j14, j15, j16, ha, hb, hd2x, hw8a, hw8b, hsz, hsz2, ht1]
      repeat' apply And.intro
      all_goals first | assumption | (intro _; assumption) | trivial | (simp -implicitDefEqProofs (contextual := true) (disch := first | assumption | omega) only [go_sem, m0_0, n0_0, m1_0, n1_0, j0, j1, j2, j3, j5, j6, j7, j8, j9, j11, j12, j13, j14, j15, j16, hd, implies_true, forall_const, false_implies, true_implies]; done) | (intros; contradiction) | trace_state
  . intro x o hxx ho
    have hxx : x = 5 \/ x = 11 := by simpa using hxx
    rcases hxx with rfl | rfl
    . obtain rfl := Option.some.inj ho
      refine ⟨rfl, ?_⟩
      rintro D E σ ⟨e3, m0_0, n0_0, m1_0, n1_0, j0, j1, j2, j3, j5, j6, j7, j8, j9, j11, j12, j13, j14, j15, j16⟩ hd
      obtain ⟨hD, hj, _⟩ := hd
      have hj : D 4 = true := hj rfl
      have qn := n0_0 hj; have qm := m0_0 hj
      refine Jcw [97 + a] (by simp -implicitDefEqProofs (disch := omega) only [go_sem, qn, qm, ht1, hj]) (by intro b; simp -implicitDefEqProofs (disch := omega) only [go_sem, qn, hj]; intro e; cases e) (e := 5) rfl rfl rfl ?_
      simp -implicitDefEqProofs (disch := omega) only [go_sem, e3, m0_0, n0_0, m1_0, n1_0, j0, j1, j2, j3, j5, j6, j7, j8, j9, j11, j12, j13, j14, j15, j16, ha, hb, hd2x, hw8a, hw8b, hsz, hsz2, ht1, hD, hj]
      repeat' apply And.intro
      all_goals first | assumption | (intro _; assumption) | trivial | (intro _; rfl) | (simp -implicitDefEqProofs (contextual := true) (disch := first | assumption | omega) only [go_sem, e3, m0_0, n0_0, m1_0, n1_0, j0, j1, j2, j3, j5, j6, j7, j8, j9, j11, j12, j13, j14, j15, j16, ha, hb, hd2x, hw8a, hw8b, hsz, hsz2, ht1, hD, hj, implies_true, forall_const, false_implies, true_implies]; done) | trace_state
    . obtain rfl := Option.some.inj ho
      refine ⟨rfl, ?_⟩
      rintro D E σ ⟨e3, m0_0, n0_0, m1_0, n1_0, j0, j1, j2, j3, j5, j6, j7, j8, j9, j11, j12, j13, j14, j15, j16⟩ hd
      obtain ⟨hD, hj, _⟩ := hd
      have hj : D 10 = true := hj rfl
      have qn := n1_0 hj; have qm := m1_0 hj
      refine Jcw [97 + b] (by simp -implicitDefEqProofs (disch := omega) only [go_sem, qn, qm, ht1, hj]) (by intro b; simp -implicitDefEqProofs (disch := omega) only [go_sem, qn, hj]; intro e; cases e) (e := 5) rfl rfl rfl ?_
      simp -implicitDefEqProofs (disch := omega) only [go_sem, e3, m0_0, n0_0, m1_0, n1_0, j0, j1, j2, j3, j5, j6, j7, j8, j9, j11, j12, j13, j14, j15, j16, ha, hb, hd2x, hw8a, hw8b, hsz, hsz2, ht1, hD, hj]
      repeat' apply And.intro
      all_goals first | assumption | (intro _; assumption) | trivial | (intro _; rfl) | (simp -implicitDefEqProofs (contextual := true) (disch := first | assumption | omega) only [go_sem, e3, m0_0, n0_0, m1_0, n1_0, j0, j1, j2, j3, j5, j6, j7, j8, j9, j11, j12, j13, j14, j15, j16, ha, hb, hd2x, hw8a, hw8b, hsz, hsz2, ht1, hD, hj, implies_true, forall_const, false_implies, true_implies]; done) | trace_state
  . rintro D E σ hD ⟨e3, m0_0, n0_0, m1_0, n1_0, j0, j1, j2, j3, j5, j6, j7, j8, j9, j11, j12, j13, j14, j15, j16⟩
    have g0 := m0_0 (hD 4 (by decide))
    have f0 := n0_0 (hD 4 (by decide))
    have g1 := m1_0 (hD 10 (by decide))
    have f1 := n1_0 (hD 10 (by decide))
    have q0 := j0 (hD 0 (by decide))
    have q1 := j1 (hD 1 (by decide))
    have q2 := j2 (hD 2 (by decide))
    have q3 := j3 (hD 3 (by decide))
    have q5 := j5 (hD 5 (by decide))
    have q6 := j6 (hD 6 (by decide))
    have q7 := j7 (hD 7 (by decide))
    have q8 := j8 (hD 8 (by decide))
    have q9 := j9 (hD 9 (by decide))
    have q11 := j11 (hD 11 (by decide))
    have q12 := j12 (hD 12 (by decide))
    have q13 := j13 (hD 13 (by decide))
    have q14 := j14 (hD 14 (by decide))
    have q15 := j15 (hD 15 (by decide))
    have q16 := j16 (hD 16 (by decide))
    clear m0_0 n0_0 m1_0 n1_0 j0 j1 j2 j3 j5 j6 j7 j8 j9 j11 j12 j13 j14 j15 j16 hD; simp -implicitDefEqProofs (disch := omega) only [go_sem, q16, results41]
def mkR (c : Int) (x : List Int) : Rg := ⟨Jaf c 8, (x.take 12).map entF⟩
def othK (r : Rg) (a : Int) : Nat := (Jaf a ((r.l.length : Int) + 1)).toNat
def othR (r : Rg) (a : Int) (x : List Int) : Rg := ⟨r.c, r.l.take (othK r a) ++ (x.take (12 - othK r a)).map entF⟩
@[go_sem] theorem append_S1 (l : List ByteArray) (a : ByteArray) : l.map Str ++ [.v (.string a)] = (l ++ [a]).map Str := by simp
set_option maxHeartbeats 4000000 in
theorem made18_ev (c : Int) (x : List Int) (hc : R64 c) (hx : ∀ n ∈ x, R64 n) (hl : x.length <= 9223372036854775807) : Ev prog 38 [I c, SL x] (RGP (mkR c x)) := by
  have p0 := Jai (c := c) (n := 8) (by omega)
  have c0 := JeM c 8 hc (by omega)
  have hm : mkR c x = ⟨Jaf c 8, (x.take 12).map entF⟩ := rfl
  rw [hm]; clear hm
  obtain ⟨Z, hZ⟩ : ∃ Z, (x.take 12).map entF = Z := ⟨_, rfl⟩
  rw [hZ]; generalize Jaf c 8 = pc at *
  refine EW [2, 6] func38 ?_
  simp -implicitDefEqProofs (disch := omega) only [go_sem, ntmps38]
  refine Jaa c0 ?_
  simp -implicitDefEqProofs (disch := omega) only [go_sem]
  refine JaZ 81789008 81789009 0 1 9 1 (k := ⟨90, 2, [.agg [I pc, .v (.slice none 0 0)]]⟩) (el := .agg [I pc, .v (.slice none 0 0)]) (by simp -implicitDefEqProofs (disch := omega) only [go_sem]) (by decide) rfl rfl (by simp) (by simp -implicitDefEqProofs (disch := omega) only [go_sem]) rfl ?_
  refine Jds Plain.mono ?_
  simp -implicitDefEqProofs (disch := omega) only [go_sem]
  refine JeF 0 (fun E σ => E 4 = .ptr 81788992 2 0 0 /\ E 5 = .ptr 81789008 2 0 0 /\ σ 81788992 = some ⟨90, 2, [.agg [I 0, .v (.slice none 0 0)]]⟩ /\ σ 81789008 = some ⟨90, 2, [.agg [I pc, .own 81789009 1 0 Z.length]]⟩ /\ σ 81789009 = some ⟨9, 1, Z.map Str⟩) ?_ ?_
  rotate_left
  . rintro E σ ⟨e4, e5, m4, m5, mr⟩
    have hqt : Z.take Z.length = Z := L0c
    simp -implicitDefEqProofs (disch := omega) only [go_sem, e4, e5, m4, m5, mr, false_and]
    refine Jay Plain.mono [81789008, 81789009] ?_
    simp -implicitDefEqProofs (disch := omega) only [go_sem, e4, e5, m4, m5, mr, hqt, L04, false_and]; simp -implicitDefEqProofs (disch := omega) only [go_sem, e4, e5, m4, m5, mr, hqt, L04, false_and, results38]
  refine Jag (fun n E σ => ∃ i : Nat, i + n = 12 /\ i <= x.length /\ E 1 = SL x /\ E 4 = .ptr 81788992 2 0 0 /\ E 5 = .ptr 81789008 2 0 0 /\ E 6 = I i /\ σ 81788992 = some ⟨90, 2, [.agg [I 0, .v (.slice none 0 0)]]⟩ /\ σ 81789008 = some ⟨90, 2, [.agg [I pc, .own 81789009 1 0 i]]⟩ /\ σ 81789009 = some ⟨9, 1, ((x.take i).map entF).map Str⟩) 12 ⟨0, by omega, by omega, ?_⟩ ?_
  . simp -implicitDefEqProofs (disch := omega) only [go_sem, false_and]; try rfl
  rintro n E σ ⟨i, hi, hix, e1, e4, e5, e6, m4, m5, mr⟩
  have htl : ((x.take i).map entF).length = i := by simp; omega
  have fin : i = 12 \/ i = x.length -> Z = (x.take i).map entF := fun h => by
    rw [<- hZ]
    rcases h with rfl | rfl
    . rfl
    . rw [L0c, L0a (by omega)]
  simp -implicitDefEqProofs (disch := omega) only [go_sem, e1, e4, e5, e6, m4, m5, mr, false_and, and_self]
  refine Jab (fun hc1 => ?_) (fun hc1 => ?_)
  rotate_left
  . have hf := fin (.inr (by omega))
    rw [<- hf] at mr htl; simp -implicitDefEqProofs (disch := omega) only [go_sem, e1, e4, e5, e6, m4, m5, mr, htl, false_and, and_self]
  simp -implicitDefEqProofs (disch := omega) only [go_sem, e1, e4, e5, e6, m4, m5, mr, false_and, and_self]
  refine Jab (fun hc2 => ?_) (fun hc2 => ?_)
  rotate_left
  . have hf := fin (.inl (by omega))
    rw [<- hf] at mr htl; simp -implicitDefEqProofs (disch := omega) only [go_sem, e1, e4, e5, e6, m4, m5, mr, htl, false_and, and_self]
  have ci := entry_ev (gd x i) (hx _ (Jao x i (by omega)))
  have htk : (x.take (i + 1)).map entF = (x.take i).map entF ++ [entF (gd x i)] := by rw [Jp6 x i (by omega)]; simp
  generalize (x.take i).map entF = q at *; generalize entF (gd x i) = r at *
  have hqt : q.take i = q := L0a (by omega)
  simp -implicitDefEqProofs (disch := omega) only [go_sem, e1, e4, e5, e6, m4, m5, mr, false_and, and_self]
  refine Jaa ci ?_
  simp -implicitDefEqProofs (disch := omega) only [go_sem, e1, e4, e5, e6, m4, m5, mr, htl, hqt, false_and, and_self]
  refine Jad (12 - (i + 1)) (by omega) ⟨i + 1, by omega, by omega, ?_⟩
  rw [htk]; simp -implicitDefEqProofs (disch := omega) only [go_sem, e1, e4, e5, e6, m4, m5, mr, htl, hqt, false_and, and_self]; try simp
set_option maxHeartbeats 8000000 in
theorem other18_ev (r : Rg) (at_ : Int) (x : List Int) (ha : R64 at_) (hx : ∀ n ∈ x, R64 n) (hl : x.length <= 9223372036854775807) (hr : r.l.length <= 12) : Ev prog 39 [RGP r, I at_, SL x] (RGP (othR r at_ x)) := by
  have c1 := JeM at_ ((r.l.length : Int) + 1) ha (by omega)
  have p1 := Jai (c := at_) (n := (r.l.length : Int) + 1) (by omega)
  obtain ⟨k, hk⟩ : ∃ k : Nat, Jaf at_ ((r.l.length : Int) + 1) = k := ⟨(Jaf at_ ((r.l.length : Int) + 1)).toNat, by omega⟩
  have hK : othK r at_ = k := by unfold othK; omega
  have hm : othR r at_ x = ⟨r.c, r.l.take k ++ (x.take (12 - k)).map entF⟩ := by unfold othR; rw [hK]
  rw [hm]; rw [hk] at c1 p1; clear hm hK hk; obtain ⟨c, l⟩ := r
  simp only at *
  obtain ⟨Z, hZ⟩ : ∃ Z, l.take k ++ (x.take (12 - k)).map entF = Z := ⟨_, rfl⟩
  rw [hZ]
  have hkl : (l.take k).length = k := by rw [L03]; omega
  have htl : l.take k = l.take k := rfl
  have hqt : (l.take k).take k = l.take k := L0a (by omega)
  refine EW [1, 6] func39 ?_
  simp -implicitDefEqProofs (disch := omega) only [go_sem, ntmps39]
  refine JdN (fun D E σ => E 1 = I at_ /\ E 2 = SL x /\ E 3 = .ptr 83886128 2 0 0 /\ E 6 = .ptr 83886176 2 0 0 /\ σ 83886128 = some ⟨90, 2, [.agg [I c, SLs l]]⟩ /\ σ 83886176 = some ⟨90, 2, [.agg [I 0, .v (.slice none 0 0)]]⟩ /\ (D 13 = true -> D 12 = true) /\ (D 15 = true -> D 13 = true) /\ (D 12 = true -> D 2 = true) /\ (D 15 = true -> D 14 = true) /\ (D 2 = true -> D 12 = false -> σ 83886256 = some ⟨9, 1, []⟩) /\ (D 2 = true -> D 12 = false -> E 11 = .own 83886256 1 0 0) /\ (D 12 = true -> σ 83886256 = some ⟨9, 1, (l.take k).map Str⟩) /\ (D 12 = true -> E 21 = .own 83886256 1 0 k) /\ (D 14 = true -> D 15 = false -> σ 83886192 = some ⟨90, 2, [.agg [I 0, .v (.slice none 0 0)]]⟩) /\ (D 15 = true -> σ 83886192 = some ⟨90, 2, [.agg [I c, .own 83886256 1 0 k]]⟩) /\ (D 0 = true -> E 9 = .ptr 83886128 2 0 0) /\ (D 1 = true -> E 10 = I c) /\ (D 3 = true -> E 12 = .ptr 83886128 2 0 1) /\ (D 4 = true -> E 13 = SLs l) /\ (D 5 = true -> E 14 = I at_) /\ (D 6 = true -> E 15 = .ptr 83886128 2 0 1) /\ (D 7 = true -> E 16 = SLs l) /\ (D 8 = true -> E 17 = I l.length) /\ (D 9 = true -> E 18 = I ((l.length : Int) + 1)) /\ (D 10 = true -> E 19 = I (k : Nat)) /\ (D 11 = true -> E 20 = SLs (l.take k)) /\ (D 13 = true -> E 22 = .agg [I c, .own 83886256 1 0 k]) /\ (D 14 = true -> E 7 = .ptr 83886192 2 0 0)) ?_ ?_ ?_
  . simp -implicitDefEqProofs (disch := omega) only [go_sem, hkl, htl, hqt, L1a, L0N, L04, false_and, and_self]; try simp
  . simp only [JeV, depK, Region.binds, eq_self, forall_const, and_true]
    repeat' apply And.intro
    all_goals
      rintro D E σ ⟨e1, e2, e3, e6, m3, m6, c13_12, c15_13, c12_2, c15_14, m0_0, n0_0, m0_1, n0_1, m1_0, m1_1, j0, j1, j3, j4, j5, j6, j7, j8, j9, j10, j11, j13, j14⟩ hd
      have k := And.intro trivial <| And.intro (cK c13_12) <| And.intro (cK c15_13) <| And.intro (cK c12_2) <| And.intro (cK c15_14) trivial
      simp -implicitDefEqProofs (disch := first | assumption | (simp only [hd, k]; done) | omega) only [go_sem, e1, e2, e3, e6, m3, m6, m0_0, n0_0, m0_1, n0_1, m1_0, m1_1, j0, j1, j3, j4, j5, j6, j7, j8, j9, j10, j11, j13, j14, hkl, htl, hqt, L1a, L0N, L04, false_and, and_self]
      try (refine Jaa c1 ?_; simp -implicitDefEqProofs (disch := first | assumption | (simp only [hd, k]; done) | omega) only [go_sem, e1, e2, e3, e6, m3, m6, m0_0, n0_0, m0_1, n0_1, m1_0, m1_1, j0, j1, j3, j4, j5, j6, j7, j8, j9, j10, j11, j13, j14, hkl, htl, hqt, L1a, L0N, L04, false_and, and_self])
      repeat' apply And.intro
      all_goals first | assumption | (intro _; assumption) | trivial | (simp -implicitDefEqProofs (contextual := true) (disch := first | assumption | omega) only [go_sem, m0_0, n0_0, m0_1, n0_1, m1_0, m1_1, j0, j1, j3, j4, j5, j6, j7, j8, j9, j10, j11, j13, j14, hd, c13_12, c15_13, c12_2, c15_14, k, implies_true, forall_const, false_implies, true_implies]; done) | (intro h; intros; exfalso; simp (maxDischargeDepth := 9) [hd, k] at h; done) | (intros; contradiction) | trace_state
  . rintro D E σ hD ⟨e1, e2, e3, e6, m3, m6, c13_12, c15_13, c12_2, c15_14, m0_0, n0_0, m0_1, n0_1, m1_0, m1_1, j0, j1, j3, j4, j5, j6, j7, j8, j9, j10, j11, j13, j14⟩
    have g0 := m0_1 (hD 12 (by decide))
    have f0 := n0_1 (hD 12 (by decide))
    have g1 := m1_1 (hD 15 (by decide))
    have q0 := j0 (hD 0 (by decide))
    have q1 := j1 (hD 1 (by decide))
    have q3 := j3 (hD 3 (by decide))
    have q4 := j4 (hD 4 (by decide))
    have q5 := j5 (hD 5 (by decide))
    have q6 := j6 (hD 6 (by decide))
    have q7 := j7 (hD 7 (by decide))
    have q8 := j8 (hD 8 (by decide))
    have q9 := j9 (hD 9 (by decide))
    have q10 := j10 (hD 10 (by decide))
    have q11 := j11 (hD 11 (by decide))
    have q13 := j13 (hD 13 (by decide))
    have q14 := j14 (hD 14 (by decide))
    clear c13_12 c15_13 c12_2 c15_14 m0_0 n0_0 m0_1 n0_1 m1_0 m1_1 j0 j1 j3 j4 j5 j6 j7 j8 j9 j10 j11 j13 j14 hD; simp -implicitDefEqProofs (disch := omega) only [go_sem, e1, e2, e3, e6, m3, m6, q14, g0, g1, hkl, htl, hqt, L1a, L0N, L04, false_and, and_self]
    refine JeF 0 (fun E σ => E 6 = .ptr 83886176 2 0 0 /\ E 7 = .ptr 83886192 2 0 0 /\ σ 83886176 = some ⟨90, 2, [.agg [I 0, .v (.slice none 0 0)]]⟩ /\ σ 83886192 = some ⟨90, 2, [.agg [I c, .own 83886256 1 0 Z.length]]⟩ /\ σ 83886256 = some ⟨9, 1, Z.map Str⟩) ?_ ?_
    rotate_left
    . rintro E σ ⟨e6, e7, m6, m7, mr⟩
      have hqt : Z.take Z.length = Z := L0c
      simp -implicitDefEqProofs (disch := omega) only [go_sem, e6, e7, m6, m7, mr, false_and]
      refine Jay Plain.mono [83886192, 83886256] ?_
      simp -implicitDefEqProofs (disch := omega) only [go_sem, e6, e7, m6, m7, mr, hqt, L04, false_and]; simp -implicitDefEqProofs (disch := omega) only [go_sem, e6, e7, m6, m7, mr, hqt, L04, false_and, results39]
    have h0 : l.take k = l.take k ++ (x.take 0).map entF := by simp
    refine Jag (fun n E σ => ∃ (i : Nat) (V : List ByteArray), i + n = 12 /\ i <= x.length /\ k + i <= 12 /\ V = l.take k ++ (x.take i).map entF /\ E 2 = SL x /\ E 6 = .ptr 83886176 2 0 0 /\ E 7 = .ptr 83886192 2 0 0 /\ E 8 = I i /\ σ 83886176 = some ⟨90, 2, [.agg [I 0, .v (.slice none 0 0)]]⟩ /\ σ 83886192 = some ⟨90, 2, [.agg [I c, .own 83886256 1 0 (k + i)]]⟩ /\ σ 83886256 = some ⟨9, 1, V.map Str⟩) 12 ⟨0, l.take k, by omega, by omega, by omega, h0, ?_⟩ ?_
    . simp -implicitDefEqProofs (disch := omega) only [go_sem, e1, e2, e3, e6, m3, m6, q14, g0, g1, false_and]; try rfl
    clear h0
    rintro n E σ ⟨i, V, hi, hix, hki, hV, e2, e6, e7, e8, m6, m7, mr⟩
    have hvl : V.length = k + i := by rw [hV, L07, hkl, L04, L03]; omega
    have fin : k + i = 12 \/ i = x.length -> Z = V := fun h => by
      rw [<- hZ, hV]
      rcases h with h | rfl
      . rw [show 12 - k = i by omega]
      . rw [L0c, L0a (l := x) (by omega)]
    simp -implicitDefEqProofs (disch := omega) only [go_sem, e2, e6, e7, e8, m6, m7, mr, false_and, and_self]
    refine Jab (fun hc1 => ?_) (fun hc1 => ?_)
    rotate_left
    . have hf := fin (.inr (by omega))
      rw [<- hf] at mr hvl; simp -implicitDefEqProofs (disch := omega) only [go_sem, e2, e6, e7, e8, m6, m7, mr, hvl, false_and, and_self]
    simp -implicitDefEqProofs (disch := omega) only [go_sem, e2, e6, e7, e8, m6, m7, mr, false_and, and_self]
    refine Jab (fun hc2 => ?_) (fun hc2 => ?_)
    rotate_left
    . have hf := fin (.inl (by omega))
      rw [<- hf] at mr hvl; simp -implicitDefEqProofs (disch := omega) only [go_sem, e2, e6, e7, e8, m6, m7, mr, hvl, false_and, and_self]
    have ci := entry_ev (gd x i) (hx _ (Jao x i (by omega)))
    have htk : l.take k ++ (x.take (i + 1)).map entF = V ++ [entF (gd x i)] := by rw [Jp6 x i (by omega), hV]; simp
    clear fin hV; generalize entF (gd x i) = r at *
    have hqt : V.take (k + i) = V := L0a (by omega)
    have hki2 : k + (i + 1) = k + i + 1 := by omega
    simp -implicitDefEqProofs (disch := omega) only [go_sem, e2, e6, e7, e8, m6, m7, mr, false_and, and_self]
    refine Jaa ci ?_
    simp -implicitDefEqProofs (disch := omega) only [go_sem, e2, e6, e7, e8, m6, m7, mr, hvl, hqt, false_and, and_self]
    refine Jad (12 - (i + 1)) (by omega) ⟨i + 1, V ++ [r], by omega, by omega, by omega, htk.symm, ?_⟩
    rw [hki2]; simp -implicitDefEqProofs (disch := omega) only [go_sem, e2, e6, e7, e8, m6, m7, mr, hvl, hqt, false_and, and_self]; try simp
theorem dn_SLi (l : List Int) : (SL l).dn = false := by
  simp only [AV.dn, Jxr]
theorem indF_lt (x : Int) : ∀ i, ∀ q ∈ indF x i, 0 <= q /\ q < i
  | 0, q, h => by cases h
  | i + 1, q, h => by
    rw [indF] at h
    rcases L0z.1 h with h | h
    . have := indF_lt x i q h; omega
    . split at h
      . obtain rfl := L0p.1 h; omega
      . cases h
theorem indF_asc (x : Int) (n : Nat) : ∀ i, i <= n -> ascN n none (indF x i) = true
  | 0, _ => rfl
  | i + 1, h => by
    have ih := indF_asc x n i (by omega)
    rw [indF]
    split
    . exact Jic n i (by omega) _ _ (fun q hq => by cases hq) (fun q hq => (indF_lt x i q hq).2) ih
    . rw [L0F]; exact ih
theorem mkR_ok (c : Int) (x : List Int) : regB (mkR c x) = true /\ (mkR c x).l.length <= 12 /\ ∀ s ∈ (mkR c x).l, s.size <= 2 := by
  have p := Jai (c := c) (n := 8) (by omega)
  have h2 : (mkR c x).l.length <= 12 := by simp only [mkR, L04, L03]; omega
  have h3 : ∀ s ∈ (mkR c x).l, s.size <= 2 := fun s hs => by
    obtain ⟨n, _, rfl⟩ := L08.1 hs
    exact entF_size n
  exact ⟨Jbu.2 ⟨by simp only [mkR]; omega, by omega, fun s hs => by have := h3 s hs; omega⟩, h2, h3⟩
theorem othR_ok {r : Rg} (h : regB r = true /\ r.l.length <= 12 /\ ∀ s ∈ r.l, s.size <= 2) (a : Int) (x : List Int) : regB (othR r a x) = true /\ (othR r a x).l.length <= 12 /\ ∀ s ∈ (othR r a x).l, s.size <= 2 := by
  have hr := Jbu.1 h.1
  have h2 : (othR r a x).l.length <= 12 := by
    have p := Jai (c := a) (n := (r.l.length : Int) + 1) (by omega)
    have := h.2.1
    simp only [othR, othK, L07, L04, L03]; omega
  have h3 : ∀ s ∈ (othR r a x).l, s.size <= 2 := fun s hs => by
    rcases L0z.1 hs with hs | hs
    . exact h.2.2 s (L0H hs)
    . obtain ⟨n, _, rfl⟩ := L08.1 hs
      exact entF_size n
  exact ⟨Jbu.2 ⟨hr.1, by omega, fun s hs => by have := h3 s hs; omega⟩, h2, h3⟩
def shPt (key : ByteArray) (r : Rg) (n : Nat) (l : List Int) : Pt := ⟨JeC key r n, l.map fun i => JbD r n i.toNat⟩
theorem sh_some {key : ByteArray} {r : Rg} {n : Nat} {x : Int} (hk : key.size = 32) (hr : regB r = true) (hn : n <= r.l.length) : JdX key r n (indF x n) = some (shPt key r n (indF x n)) := by
  unfold JdX; rw [if_pos, L1a]
  . rfl
  . exact ⟨hk, hr, by omega, by rw [L1a]; exact indF_asc x n n (L09 _)⟩
theorem evF_pre {key : ByteArray} {p : Pt} (h : Jbj key p = true) : evF key p = preF p := if_pos h
set_option maxHeartbeats 8000000 in
theorem lfirst_ev (c : Int) (x : List Int) (at_ : Int) (y : List Int) (s1 s2 b1 b2 one two : Int) (hc : R64 c) (hxl : x.length <= 9223372036854775807) (hx : ∀ n ∈ x, R64 n) (ha : R64 at_) (hyl : y.length <= 9223372036854775807) (hy : ∀ n ∈ y, R64 n) (h1 : R64 s1) (h2 : R64 s2) (h3 : R64 b1) (h4 : R64 b2) (h5 : R64 one) (h6 : R64 two) :
    Ev prog 10 [I c, SL x, I at_, SL y, .agg [I s1, I s2], .agg [I b1, I b2], I one, I two] (B true) := by
  have okr := mkR_ok c x; have d0 := JpO; have d1 := made18_ev c x hc hx hxl; have d2 := other18_ev (mkR c x) at_ y ha hy hyl okr.2.1; have oks := othR_ok okr at_ y
  have hcc : (othR (mkR c x) at_ y).c = (mkR c x).c := rfl
  generalize othR (mkR c x) at_ y = s at *; generalize mkR c x = r at *; obtain ⟨okr1, okr2, okr3⟩ := okr; obtain ⟨oks1, oks2, oks3⟩ := oks; have hrc := (Jbu.1 okr1).1
  have d3 := JoV r.c (by omega)
  have hks := JeE r.c
  have d4 := JeN s1 ((r.l.length : Int) + 1) h1 (by omega)
  have p4 := Jai (c := s1) (n := (r.l.length : Int) + 1) (by omega)
  have d5 := JeN s2 ((s.l.length : Int) + 1) h2 (by omega)
  have p5 := Jai (c := s2) (n := (s.l.length : Int) + 1) (by omega)
  obtain ⟨a, hA⟩ : ∃ a : Nat, Jaf s1 ((r.l.length : Int) + 1) = a := ⟨(Jaf s1 ((r.l.length : Int) + 1)).toNat, by omega⟩
  obtain ⟨b, hB⟩ : ∃ b : Nat, Jaf s2 ((s.l.length : Int) + 1) = b := ⟨(Jaf s2 ((s.l.length : Int) + 1)).toNat, by omega⟩
  rw [hA] at d4 p4; rw [hB] at d5 p5
  have d6 := Jhz b1 a h3 (by omega)
  have d7 := Jhz b2 b h4 (by omega)
  have w1 := sh_some (key := keyF r.c) (r := r) (n := a) (x := Jaf b1 65536) hks okr1 (by omega)
  have w2 := sh_some (key := keyF r.c) (r := s) (n := b) (x := Jaf b2 65536) hks oks1 (by omega)
  have il1 := JeD (Jaf b1 65536) a; have il2 := JeD (Jaf b2 65536) b; have ir1 := indF_lt (Jaf b1 65536) a; have ir2 := indF_lt (Jaf b2 65536) b
  have d8 := JiW (keyF r.c) r a (indF (Jaf b1 65536) a) (by omega) (by omega) (fun n hn => by have := ir1 n hn; exact ⟨by omega, by omega⟩)
  have d9 := JiW (keyF r.c) s b (indF (Jaf b2 65536) b) (by omega) (by omega) (fun n hn => by have := ir2 n hn; exact ⟨by omega, by omega⟩)
  rw [w1] at d8; rw [w2] at d9
  have ok1 := Jg9 w1 (by omega)
  have ok2 := Jg9 w2 (by omega)
  have k1 := (Jb8 w1).1; have k2 := (Jb8 w2).1
  have hpc : (shPt (keyF r.c) r a (indF (Jaf b1 65536) a)).h.c = (shPt (keyF r.c) s b (indF (Jaf b2 65536) b)).h.c := hcc.symm
  have d10 := fun u v => Jcf (keyF r.c) _ u v ok1
  have d11 := fun u v => Jcf (keyF r.c) _ u v ok2
  have v1 := evF_pre k1; have v2 := evF_pre k2; rw [v1] at d10; rw [v2] at d11; have cv := JtG (keyF r.c) _ _ ok1 ok2; rw [k1, k2, L0k, L0k] at cv
  have cvo := fun u v => JtH hpc (u := u) (v := v)
  clear w1 w2 il1 il2 ir1 ir2 v1 v2 k1 k2 ok1 ok2 hpc; generalize shPt (keyF r.c) r a (indF (Jaf b1 65536) a) = P at *; generalize shPt (keyF r.c) s b (indF (Jaf b2 65536) b) = Q at *; generalize indF (Jaf b1 65536) a = I1 at *; generalize indF (Jaf b2 65536) b = I2 at *; have e1 := entry_ev one h5; have e2 := entry_ev two h6; have sw1 := Jgw (preF P); have sw2 := Jgw (preF Q); have in1 := Jgv (preF P); have in2 := Jgv (preF Q)
  have se1 : ∀ u, JaK (preF P) u u = 0 := fun u => if_pos rfl
  generalize JaK (preF P) = F1 at *; generalize JaK (preF Q) = F2 at *; generalize hCV : Jij P Q = CV at *
  have pu := fun n (h : (0 : Int) < n) => Jai (c := one) h
  have pv := fun n (h : (0 : Int) < n) => Jai (c := two) h
  have cu := fun h => JeN one (r.l.length : Int) h5 h
  have cw := fun h => JeN two (s.l.length : Int) h6 h
  generalize entF one = E1 at *; generalize entF two = E2 at *; generalize hKEY : keyF r.c = KEY at *; obtain ⟨rc, rl⟩ := r; obtain ⟨sc, sl⟩ := s
  obtain ⟨⟨pc, pn, pr, ps⟩, pl⟩ := P
  obtain ⟨⟨qc, qn, qr, qs⟩, ql⟩ := Q
  simp only at *
  subst hcc
  refine EW [9, 10] func10 ?_
  simp -implicitDefEqProofs (disch := omega) only [go_sem, ntmps10]
  refine Jaa d0 ?_
  simp -implicitDefEqProofs (disch := omega) only [go_sem]
  refine Jaa d1 ?_
  simp -implicitDefEqProofs (disch := omega) only [go_sem]
  refine Jaa d2 ?_
  simp -implicitDefEqProofs (disch := omega) only [go_sem]
  refine Jaa d3 ?_
  simp -implicitDefEqProofs (disch := omega) only [go_sem]
  refine Jaa d4 ?_
  simp -implicitDefEqProofs (disch := omega) only [go_sem]
  refine Jaa d5 ?_
  simp -implicitDefEqProofs (disch := omega) only [go_sem]
  refine Jb2 Plain.mono ?_
  simp -implicitDefEqProofs (disch := omega) only [go_sem]
  refine Jaa d6 ?_ (h4 := .inr (dn_SLi _))
  simp -implicitDefEqProofs (disch := omega) only [go_sem]
  refine Jaa d8 ?_ (h4 := .inr (JtJ ⟨⟨pc, pn, pr, ps⟩, pl⟩))
  simp -implicitDefEqProofs (disch := omega) only [go_sem]
  refine Jb2 Plain.mono ?_
  simp -implicitDefEqProofs (disch := omega) only [go_sem]
  refine Jaa d7 ?_ (h4 := .inr (dn_SLi _))
  simp -implicitDefEqProofs (disch := omega) only [go_sem]
  refine Jaa d9 ?_ (h4 := .inr (JtJ ⟨⟨qc, qn, qr, qs⟩, ql⟩))
  simp -implicitDefEqProofs (disch := omega) only [go_sem]
  refine Jaa e1 ?_
  simp -implicitDefEqProofs (disch := omega) only [go_sem]
  refine Jaa e2 ?_
  simp -implicitDefEqProofs (disch := omega) only [go_sem]
  have hr1 := fun (h : 0 < rl.length) => cu (by omega)
  have hr2 := fun (h : 0 < rl.length) => pu (rl.length : Int) (by omega)
  have hs1 := fun (h : 0 < sl.length) => cw (by omega)
  have hs2 := fun (h : 0 < sl.length) => pv (sl.length : Int) (by omega)
  clear cu cw pu pv
  have d12 : ∀ u v, Ev prog 19 [Str KEY, .agg [I pc, I pn, Str pr, Str ps, ITS pl], Str v, Str u] (I ((3 - F1 u v) % 3)) := fun u v => by rw [<- sw1]; exact d10 v u
  have d13 : ∀ u v, Ev prog 19 [Str KEY, .agg [I qc, I qn, Str qr, Str qs, ITS ql], Str v, Str u] (I ((3 - F2 u v) % 3)) := fun u v => by rw [<- sw2]; exact d11 v u
  refine Jab (fun g1 => ?_) (fun g1 => ?_)
  case' refine_1 =>
    have hr0 : 0 < rl.length := by omega
    have c1 := hr1 hr0; have p1 := hr2 hr0; generalize Jaf one (rl.length : Int) = j1 at *
    have hj1 : j1.toNat < rl.length := by omega
    simp -implicitDefEqProofs (disch := omega) only [go_sem]
    refine Jab (fun g2 => ?_) (fun g2 => ?_)
    case' refine_1 =>
      simp -implicitDefEqProofs (disch := omega) only [go_sem]
      refine Jaa c1 ?_
  all_goals
    simp -implicitDefEqProofs (disch := omega) only [go_sem]
    refine Jab (fun g3 => ?_) (fun g3 => ?_)
    case' refine_1 =>
      have hs0 : 0 < sl.length := by omega
      have c2 := hs1 hs0; have p2 := hs2 hs0; generalize Jaf two (sl.length : Int) = j2 at *
      have hj2 : j2.toNat < sl.length := by omega
      simp -implicitDefEqProofs (disch := omega) only [go_sem]
      refine Jab (fun g4 => ?_) (fun g4 => ?_)
      case' refine_1 =>
        simp -implicitDefEqProofs (disch := omega) only [go_sem]
        refine Jaa c2 ?_
    all_goals
      simp -implicitDefEqProofs (disch := omega) only [go_sem]
      refine Jaa (d10 _ _) ?_
      generalize hz : F1 _ _ = z
      have hzb : 0 <= z /\ z <= 2 := by rw [<- hz]; exact in1 _ _
      have hzt : (3 - z).tmod 3 = (3 - z) % 3 := L13 (by omega)
      simp -implicitDefEqProofs (disch := omega) only [go_sem]
      refine Jaa (d11 _ _) ?_
      generalize hy2 : F2 _ _ = y2
      have hyb : 0 <= y2 /\ y2 <= 2 := by rw [<- hy2]; exact in2 _ _
      have hyt : (3 - y2).tmod 3 = (3 - y2) % 3 := L13 (by omega)
      simp -implicitDefEqProofs (disch := omega) only [go_sem]
      refine Jaa (d12 _ _) ?_
      simp -implicitDefEqProofs (disch := omega) only [go_sem, hz, hzt, bne_self_eq_false]
      try (refine Jab (fun h => absurd rfl h) (fun h => ?_); simp -implicitDefEqProofs (disch := omega) only [go_sem, hz, hzt, bne_self_eq_false])
      refine Jaa (d13 _ _) ?_
      simp -implicitDefEqProofs (disch := omega) only [go_sem, hy2, hyt, bne_self_eq_false]
      try (refine Jab (fun h => absurd rfl h) (fun h => ?_); simp -implicitDefEqProofs (disch := omega) only [go_sem, hy2, hyt, bne_self_eq_false])
      refine Jab (fun h => absurd h (by omega)) (fun h => ?_)
      simp -implicitDefEqProofs (disch := omega) only [go_sem]
      refine Jab (fun h => absurd h (by omega)) (fun h => ?_)
      simp -implicitDefEqProofs (disch := omega) only [go_sem, Jel]
      refine Jab (fun he => ?_) (fun he => ?_)
      . have hz0 : z = 0 := by rw [<- hz, he]; exact se1 _
        simp -implicitDefEqProofs (disch := omega) only [go_sem, hz0, results10]
      simp -implicitDefEqProofs (disch := omega) only [go_sem]
      refine Jab (fun h0 => ?_) (fun h0 => ?_)
      . simp -implicitDefEqProofs (disch := omega) only [go_sem, results10]
      simp -implicitDefEqProofs (disch := omega) only [go_sem]
      refine Jab (fun h1 => ?_) (fun h1 => ?_)
      . simp -implicitDefEqProofs (disch := omega) only [go_sem, results10]
      simp -implicitDefEqProofs (disch := omega) only [go_sem]
      refine Jab (fun h2 => ?_) (fun h2 => ?_)
      . simp -implicitDefEqProofs (disch := omega) only [go_sem, results10]
      have hcv : CV = true := cvo _ _ (by rw [hz]; exact h0) (by rw [hy2]; exact h1) (by rw [hz, hy2]; exact h2)
      rw [hcv] at cv; simp -implicitDefEqProofs (disch := omega) only [go_sem]
      refine Jaa cv ?_
      simp -implicitDefEqProofs (disch := omega) only [go_sem, results10]
theorem legFirst_lifted (os : Os) (started : os.Started) (H : Type) (enc : TypeId × Value -> H) :
    ReturnsInHanded {} Tryz.checked os 10 .any (fun w args => (Rows.legFirstSpec.pre enc prog Tryz.f10 [] false w args /\ laidMetH prog JiF w) /\ sizedMet enc prog Tryz.f10 (OpenSpec.ofChange Rows.legFirstSpec) false w args)
      (Rows.legFirstSpec.post enc prog Tryz.f10 false true false false) :=
  Jo2 (C := Tryz.checked) (tb := 4) (ps := [OI, OSL, OI, OSL, OP, OP, OI, OI]) (X := fun w _ => laidMetH prog JiF w) (fun _ _ _ hh h => h.of_heap hh) own3 started (by kernel_rfl) func10
    (ChangeSpec.witness_shaped (enc := enc) (C := Tryz.checked) (os := os) (X := fun w _ => laidMetH prog JiF w) false (World.doorLaid prog 14 os) #[.int .i64 0, .slice none 0 0, .int .i64 0, .slice none 0 0, .agg #[.int .i64 0, .int .i64 0], .agg #[.int .i64 0, .int .i64 0], .int .i64 0, .int .i64 0] 8 rfl (World.shaped_of_RefB (by kernel_rfl) (by kernel_rfl)) (by kernel_rfl) (by kernel_rfl) (by kernel_rfl) (JlJ os _))
    JlZ (by kernel_rfl) (by kernel_rfl) (by kernel_rfl) rfl (JCj fun _ _ _ _ _ _ _ _ => rfl)
    (fun w => ⟨JfR (by kernel_rfl), JfE, JfR (by kernel_rfl), JfE, Jph, Jph, JfR (by kernel_rfl), JfR (by kernel_rfl), trivial⟩)
    (JwP fun a0 a1 a2 a3 a4 a5 a6 a7 h0 h1 h2 h3 h4 h5 h6 h7 => by
      obtain ⟨x0, hx0, rfl⟩ := h0; obtain ⟨x1, hx1, hr1, rfl⟩ := h1; obtain ⟨x2, hx2, rfl⟩ := h2; obtain ⟨x3, hx3, hr3, rfl⟩ := h3; obtain ⟨x4, y4, hx4, hy4, rfl⟩ := h4; obtain ⟨x5, y5, hx5, hy5, rfl⟩ := h5; obtain ⟨x6, hx6, rfl⟩ := h6; obtain ⟨x7, hx7, rfl⟩ := h7
      exact lfirst_ev x0 x1 x2 x3 x4 y4 x5 y5 x6 x7 hx0 hx1 hr1 hx2 hx3 hr3 hx4 hy4 hx5 hy5 hx6 hx7)
    (fun _ _ h => gok h)
theorem legFirst_row : Rows.LegFirstSaid :=
  OpenClaim.holds_of_wide 10 Tryz.f10 rfl rfl rfl rfl rfl rfl rfl ⟨rfl, rfl, rfl, rfl, rfl⟩ rfl rfl rfl rfl rfl (by kernel_rfl) func10 (by kernel_rfl)
    (of_decide_eq_true (by kernel_rfl)) (by unfold Func.isWrapper; first | (rw [if_pos (by decide +kernel)]; kernel_rfl) | (rw [if_neg (by decide +kernel)]; exact ⟨rfl, rfl⟩))
    (fun os started H enc _ => legFirst_lifted os started H enc)
theorem legFirst_holds : Rows.LegFirstCardSaid :=
  Claim7.holds_tied_plain_at .later [] [.data] true (true, "43ff5d6d438086e88ed6ccc25955440aba0cd482b19469407fb38ba16744b6d5") false
    legFirst_row (fun _ h => by cases h) (by kernel_rfl) (fun _ h => by cases h) legFirst_row_tie rfl ⟨rfl, rfl⟩ (by kernel_rfl) rfl
    (fun f fn hf hfn => by
      obtain rfl : f = 10 := Option.some.inj ((show prog.funcNamed "dialtone/dialtonelaw38.LegFirst" = some 10 by kernel_rfl).symm.trans hf) |>.symm
      obtain rfl : fn = Tryz.f10 := (Option.some.inj (func10.symm.trans hfn)).symm
      exact ⟨by kernel_rfl, fun j t ht => by
          rw [Tryz.params10] at ht
          rcases j with _ | j
          . obtain rfl : t = 3 := by simpa using ht.symm
            exact (show prog.wantsStandIn 3 = false by kernel_rfl)
          rcases j with _ | j
          . obtain rfl : t = 25 := by simpa using ht.symm
            exact (show prog.wantsStandIn 25 = false by kernel_rfl)
          rcases j with _ | j
          . obtain rfl : t = 3 := by simpa using ht.symm
            exact (show prog.wantsStandIn 3 = false by kernel_rfl)
          rcases j with _ | j
          . obtain rfl : t = 25 := by simpa using ht.symm
            exact (show prog.wantsStandIn 25 = false by kernel_rfl)
          rcases j with _ | j
          . obtain rfl : t = 104 := by simpa using ht.symm
            exact (show prog.wantsStandIn 104 = false by kernel_rfl)
          rcases j with _ | j
          . obtain rfl : t = 104 := by simpa using ht.symm
            exact (show prog.wantsStandIn 104 = false by kernel_rfl)
          rcases j with _ | j
          . obtain rfl : t = 3 := by simpa using ht.symm
            exact (show prog.wantsStandIn 3 = false by kernel_rfl)
          rcases j with _ | j
          . obtain rfl : t = 3 := by simpa using ht.symm
            exact (show prog.wantsStandIn 3 = false by kernel_rfl)
          simp at ht⟩)
    (by kernel_rfl)
#print axioms legFirst_holds
end Go.Proofs.YtnpbhgeffapojaaGreatDoor

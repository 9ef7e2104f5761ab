/- Chapter 40, AuditMatchesReference: Valid, Sums, Seal, Account, Check and Debts of the program answer as the reference implementation does, for all arguments of the statement. Conditions: the package variable digest.round reads as the program's text lays it (tied). -/
import Derived.Test.YtgbcfpcjljhijaaDoorKI
set_option linter.unusedVariables false
set_option linter.unusedSimpArgs false
set_option maxRecDepth 100000
namespace Go.Proofs.YtgbcfpcjljhijaaDoor
open Go.Vai Go Go.Proofs
open Nat (reduceEqDiff reduceMul reduceAdd reduceDiv reduceLeDiff)
open Int (reduceToNat reduceNe reduceEq reduceLT reduceLE)
def bentC (c : Ch) (how x : Int) : Ch :=
  if pickF how 5 = 0 then { c with h := x } else if pickF how 5 = 1 then { c with p := x } else if pickF how 5 = 2 then { c with q := x } else if pickF how 5 = 3 then { c with a := x } else { c with t := c.t ++ ⟨#[120]⟩ }
theorem bentC_ev (c : Ch) (how x : Int) (hh : R64 how) (ht : c.t.size ≤ 1000) : Ev Tryd.prog 14 [CH c, I how, I x] (CH (bentC c how x)) := by
  have hp := pickR_ev how 5 hh (by omega)
  unfold bentC
  generalize pickF how 5 = k at *
  have hz : c.t.size + #[(120 : UInt8)].size ≤ 9223372036854775807 := by simp; omega
  refine ev_of Tryd.func14 rfl (by kernel_rfl) mo (Nat.le_of_ble_eq_true rfl) ?_
  simp -implicitDefEqProofs (disch := omega) only [go_sem, Tryd.ntmps14]
  refine callC_at hp ?_
  simp -implicitDefEqProofs (disch := omega) only [go_sem]
  refine branch_mk (fun h => ?_) (fun h => ?_)
  · simp -implicitDefEqProofs (disch := omega) only [go_sem, h, and_self, Tryd.results14]
  simp -implicitDefEqProofs (disch := omega) only [go_sem, h]
  refine branch_mk (fun h1 => ?_) (fun h1 => ?_)
  · simp -implicitDefEqProofs (disch := omega) only [go_sem, h1, and_self, Tryd.results14]
  simp -implicitDefEqProofs (disch := omega) only [go_sem, h, h1]
  refine branch_mk (fun h2 => ?_) (fun h2 => ?_)
  · simp -implicitDefEqProofs (disch := omega) only [go_sem, h2, and_self, Tryd.results14]
  simp -implicitDefEqProofs (disch := omega) only [go_sem, h, h1, h2]
  refine branch_mk (fun h3 => ?_) (fun h3 => ?_)
  · simp -implicitDefEqProofs (disch := omega) only [go_sem, h3, and_self, Tryd.results14]
  simp -implicitDefEqProofs (disch := omega) only [go_sem, h, h1, h2, h3, and_self, hz, Tryd.results14]
end Go.Proofs.YtgbcfpcjljhijaaDoor
set_option maxRecDepth 100000
namespace Go.Proofs.YtgbcfpcjljhijaaDoor
open Go.Vai Go Go.Proofs
open Nat (reduceEqDiff reduceMul reduceAdd reduceDiv reduceLeDiff)
open Int (reduceToNat reduceNe reduceEq reduceLT reduceLE)
def bentF (a : Acc) (how x y : Int) : Acc :=
  if pickF how 8 = 0 ∨ pickF how 8 = 1 then
    (if 0 < a.l.length then { a with l := a.l.set (pickF y a.l.length).toNat (bentC (gd a.l (pickF y a.l.length).toNat) (how.tdiv 8) x) } else { a with l := [⟨a.h, 0, 1, pickF x 100, ByteArray.empty⟩] })
  else if pickF how 8 = 2 then { a with s := shaF a.s }
  else if pickF how 8 = 3 then { a with h := x }
  else if pickF how 8 = 4 then { a with p := a.p.set (pickF y 6).toNat ((gd a.p (pickF y 6).toNat).1.set (pickF x 8).toNat (gd (gd a.p (pickF y 6).toNat).1 (pickF x 8).toNat + (1 + pickF x 9)), (gd a.p (pickF y 6).toNat).2) }
  else if pickF how 8 = 5 then { a with p := a.p.set (pickF y 6).toNat ((gd a.p (pickF y 6).toNat).1, shaF (gd a.p (pickF y 6).toNat).2) }
  else if pickF how 8 = 6 then { a with p := a.p.take 5 }
  else if 0 < a.l.length then { a with l := a.l.take (a.l.length - 1) } else { a with s := ByteArray.empty }
section
variable (π : Nat → Nat)
@[go_sem] theorem rnL_CH (l : List Ch) : AV.rnL π (l.map CH) = l.map CH := AV.rnL_free π _ (namesL_CH _ l)
@[go_sem] theorem rnL_I (l : List Int) : AV.rnL π (l.map I) = l.map I := AV.rnL_free π _ (namesL_map _ l I fun _ => rfl)
@[go_sem] theorem rnL_RP (l : List Tot) : AV.rnL π (l.map RP) = l.map RP := AV.rnL_free π _ (namesL_map _ l RP fun _ => rfl)
end
def elR (X : Nat) (t : Tot) : AV := .agg [.own X 1 0 8, Str t.2]
def lsR (X j : Nat) (t : Tot) (p : List Tot) : List AV := (p.map RP).set j (elR X t)
theorem lsR_len (X j : Nat) (t : Tot) (p : List Tot) : (lsR X j t p).length = p.length := by simp [lsR]
theorem lsR_ge {X j : Nat} {t : Tot} {p : List Tot} (h : p.length ≤ j) : lsR X j t p = p.map RP := by
  unfold lsR; rw [List.set_eq_of_length_le (by simpa using h)]
theorem lsR_map (X j : Nat) (t : Tot) (p : List Tot) (f : AV → AV) (h : ∀ t, f (RP t) = RP t) : (lsR X j t p).map f = (p.map RP).set j (f (elR X t)) := by
  unfold lsR; rw [List.map_set, List.map_map]; congr 1
  exact List.map_congr_left fun t _ => h t
theorem frz_RP (q r : Nat → Bool) (σ : Store) (t : Tot) : frzE q r σ (RP t) = RP t := by
  simp -implicitDefEqProofs (disch := omega) only [go_sem]
theorem namesL_set (q : Nat → Bool) (e : AV) (he : AV.namesB q e = false) : ∀ (l : List AV) (j : Nat), AV.namesL q l = false → AV.namesL q (l.set j e) = false
  | [], _, _ => rfl
  | c :: l, 0, h => by simp only [AV.namesL, Bool.or_eq_false_iff] at h; simp [AV.namesL, he, h.2]
  | c :: l, j + 1, h => by simp only [AV.namesL, Bool.or_eq_false_iff] at h; simp [AV.namesL, h.1, namesL_set q e he l j h.2]
def normQ (J : Env → Store → Prop) : Exit → Env → Store → Prop
  | .normal => J
  | _ => fun _ _ => False
@[go_sem] theorem normQ_normal (J : Env → Store → Prop) (E : Env) (σ : Store) : normQ J .normal E σ = J E σ := rfl
theorem normQ_h {J : Env → Store → Prop} {Q : Exit → Env → Store → Prop} (h : ∀ E σ, J E σ → Q .normal E σ) : ∀ e E σ, normQ J e E σ → Q e E σ
  | .normal, E, σ, hj => h E σ hj
  | .exit _, _, _, hj => hj.elim
  | .ret, _, _, hj => hj.elim
theorem branch_nq {S : Sp} [hp : Plain S] {c : Prop} {a1 a2 : Code} {Q : Exit → Env → Store → Prop} {E E' : Env} {σ : Store} (J : Env → Store → Prop) (h1 : c → awpC S a1 (normQ J) E σ) (h2 : ¬ c → awpC S a2 (normQ J) E' σ) (h3 : ∀ E σ, J E σ → Q .normal E σ) :
    branch c (awpC S a1 Q) E (awpC S a2 Q) E' σ :=
  ⟨fun e => awpC_mono hp.mono a1 (normQ_h h3) (h1 e), fun e => awpC_mono hp.mono a2 (normQ_h h3) (h2 e)⟩
def PathFrz (X : Nat) (o : Option Blk) (pv : List AV) (pp : List Tot) : Prop := ∀ σ : Store, σ X = o → frzB (notI (inI [X])) (inL []) σ ⟨35, 2, pv⟩ = ⟨35, 2, pp.map RP⟩
theorem pathFrz_RP (X : Nat) (o : Option Blk) (p : List Tot) : PathFrz X o (p.map RP) p := fun σ _ => by
  simp -implicitDefEqProofs (disch := omega) only [go_sem]
theorem pathFrz_eq (X : Nat) (o : Option Blk) {pv : List AV} {pp : List Tot} (h : pv = pp.map RP) : PathFrz X o pv pp := by subst h; exact pathFrz_RP X o pp
theorem namesL_last (q : Nat → Bool) : ∀ (l : List AV) (e : AV), AV.namesB q e = true → AV.namesL q (l ++ [e]) = true
  | [], e, h => by simp [AV.namesL, h]
  | c :: l, e, h => by simp [AV.namesL, namesL_last q l e h]
theorem namesL_snoc (q : Nat → Bool) : ∀ (l : List AV) (e : AV), AV.namesL q l = false → AV.namesB q e = false → AV.namesL q (l ++ [e]) = false
  | [], e, _, h => by simp [AV.namesL, h]
  | c :: l, e, hl, h => by
    simp only [AV.namesL, Bool.or_eq_false_iff] at hl
    simp [AV.namesL, hl.1, namesL_snoc q l e hl.2 h]
theorem lsR_names {X j : Nat} {t : Tot} {p : List Tot} {q : Nat → Bool} (h : q X = false) : AV.namesL q (lsR X j t p) = false :=
  namesL_set q _ (by simp [elR, AV.namesB, AV.namesL, h]) _ _ (namesL_map q p RP fun _ => rfl)
theorem lsR_ne {X j : Nat} {t u : Tot} {p : List Tot} (h : p.length ≠ j) : lsR X j t p ++ [RP u] = lsR X j t (p ++ [u]) := by
  unfold lsR
  rw [List.map_append, List.set_append]
  split
  · rfl
  · rename_i hn
    rw [List.set_eq_of_length_le (by simp at hn ⊢; omega), List.set_eq_of_length_le (by simp at hn ⊢; omega)]; rfl
theorem lsR_eq {X j : Nat} {t u : Tot} {p : List Tot} (h : p.length = j) : p.map RP ++ [elR X t] = lsR X j t (p ++ [u]) := by
  unfold lsR
  rw [List.map_append, List.set_append, if_neg (by simp; omega)]
  subst h; simp
theorem lsR_frz {X j : Nat} {t : Tot} {p : List Tot} {q r : Nat → Bool} {σ : Store} (h : q X = true) : (lsR X j t p).map (frzE q r σ) = lsR X j t p := by
  rw [lsR_map _ _ _ _ _ (frz_RP q r σ)]
  unfold lsR elR
  congr 1
  simp -implicitDefEqProofs (disch := omega) only [go_sem, h]
theorem lsR_last {X j : Nat} {t : Tot} {p : List Tot} {r : Nat → Bool} {σ : Store} {s' : List Int} (hX : σ X = some ⟨3, 1, s'.map I⟩) (h8 : s'.length = 8) (hr : r X = false) : (lsR X j t p).map (frzE (notI (inI [X])) r σ) = (p.set j (s', t.2)).map RP := by
  rw [lsR_map _ _ _ _ _ (frz_RP _ r σ), List.map_set]
  congr 1
  unfold elR
  have : s'.take 8 = s' := List.take_of_length_le (by omega)
  simp -implicitDefEqProofs (disch := omega) only [go_sem, hX, h8, hr, this]
  simp
theorem rn_last {X Y j : Nat} {t u : Tot} {p : List Tot} (h : p.length = j) (he : t.2 = u.2) : AV.rnL (swp Y X) (p.map RP ++ [.agg [.own Y 1 0 8, Str u.2]]) = lsR X j t (p ++ [u]) := by
  rw [← lsR_eq (t := t) (u := u) h, rnL_eq, List.map_append, ← rnL_eq, rnL_RP]
  unfold elR
  simp -implicitDefEqProofs (disch := omega) only [go_sem, he]
theorem namesL_setT (q : Nat → Bool) (e : AV) (he : AV.namesB q e = true) : ∀ (l : List AV) (j : Nat), j < l.length → AV.namesL q (l.set j e) = true
  | [], _, h => by cases h
  | c :: l, 0, _ => by simp [AV.namesL, he]
  | c :: l, j + 1, h => by simp [AV.namesL, namesL_setT q e he l j (by simpa using h)]
theorem pathFrz_one {X j : Nat} {t : Tot} {p : List Tot} {s' : List Int} (hj : j < p.length) (h8 : s'.length = 8) (hX : inL [] X = false) : PathFrz X (some ⟨3, 1, s'.map I⟩) (lsR X j t p) (p.set j (s', t.2)) := fun σ hσ => by
  have hn : AV.namesL (notI (notI (inI [X]))) (lsR X j t p) = true := namesL_setT _ _ (by simp [elR, AV.namesB, AV.namesL, notI, inI]) _ _ (by simpa using hj)
  unfold frzB
  rw [hn, if_neg (by simp), if_neg (by simp)]
  show (⟨35, 2, (lsR X j t p).map (frzE (notI (inI [X])) (inL []) σ)⟩ : Blk) = _
  rw [lsR_last hσ h8 hX]
theorem sml_le {l : List Tot} (h : ∀ t ∈ l, TotB 1000000000000 t) {v : Nat} (hv : v < l.length) : TotB 1000000000000 (gd l v) := h _ (gd_mem l v hv)
set_option maxHeartbeats 4000000 in
theorem bent_ev (a : Acc) (how x y : Int) (hh : R64 how) (hx : R64 x) (hy : R64 y) (hl : a.l.length ≤ 100) (hlt : ∀ c ∈ a.l, c.t.size ≤ 1000) (hs : a.s.size ≤ 1000) (hp : a.p.length = 6) (hpt : ∀ t ∈ a.p, TotB 1000000000000 t) :
    Ev Tryd.prog 29 [AP a, I how, I x, I y] (.tup [AP (bentF a how x y), B (!decide (a.h = (bentF a how x y).h ∧ a.s = (bentF a how x y).s ∧ a.l = (bentF a how x y).l ∧ a.p = (bentF a how x y).p))]) := by
  have pk := pickR_ev how 8 hh (by omega)
  have pkb := pickF_in (c := how) (n := 8) (by omega)
  have px8 := pickR_ev x 8 hx (by omega)
  have bx8 := pickF_in (c := x) (n := 8) (by omega)
  have px9 := pickR_ev x 9 hx (by omega)
  have bx9 := pickF_in (c := x) (n := 9) (by omega)
  have px100 := pickR_ev x 100 hx (by omega)
  have py6 := pickR_ev y 6 hy (by omega)
  have by6 := pickF_in (c := y) (n := 6) (by omega)
  obtain ⟨b, hb⟩ : ∃ b, b = bentF a how x y := ⟨_, rfl⟩
  rw [← hb]
  unfold bentF at hb
  generalize pickF how 8 = k at *
  generalize pickF x 8 = x8 at *
  generalize pickF x 9 = x9 at *
  generalize pickF x 100 = x100 at *
  generalize hj6 : pickF y 6 = y6 at *
  obtain ⟨h, l, s, p⟩ := a
  simp only at hl hlt hs hp hpt hb
  dsimp only
  obtain ⟨j, hj⟩ : ∃ j : Nat, j = if k = 4 then y6.toNat else 6 := ⟨_, rfl⟩
  obtain ⟨L, hL⟩ : ∃ L : Nat → List AV, L = fun v => lsR 62914625 j (gd p j) (p.take v) := ⟨_, rfl⟩
  obtain ⟨Z, hZ⟩ : ∃ Z : Nat → Option Blk, Z = fun v => if j < v then some ⟨3, 1, (gd p j).1.map I⟩ else none := ⟨_, rfl⟩
  have hLl : ∀ v, v ≤ 6 → (L v).length = v := fun v hv => by rw [hL]; simp only; rw [lsR_len, List.length_take]; omega
  have hLn : ∀ v q, q 62914625 = false → AV.namesL q (L v) = false := fun v q hq => by rw [hL]; exact lsR_names hq
  have hLk : ∀ v q, q 62914625 = false → Blk.kill q ⟨35, 2, L v⟩ = ⟨35, 2, L v⟩ := fun v q hq => by have := hLn v q hq; simp -implicitDefEqProofs (disch := omega) only [go_sem, this]
  have hLo : ∀ v n, n ≠ 3932164 → AV.namesL (own n) (L v) = false := fun v n hn => hLn v _ (by simp only [own, beq_eq_false_iff_ne]; omega)
  have hLi : ∀ v n, n ≠ 62914625 → AV.namesL (isId n) (L v) = false := fun v n hn => hLn v _ (by simp only [isId, beq_eq_false_iff_ne]; omega)
  have hLf : ∀ v q r σ, q 62914625 = true → (L v).map (frzE q r σ) = L v := fun v q r σ hq => by rw [hL]; exact lsR_frz hq
  have hZk : ∀ v q, (Z v).map (Blk.kill q) = Z v := fun v q => by rw [hZ]; simp only; split <;> first | rfl | simp -implicitDefEqProofs (disch := omega) only [go_sem]
  have hZf : ∀ v q r σ, (Z v).map (frzB q r σ) = Z v := fun v q r σ => by rw [hZ]; simp only; split <;> first | rfl | simp -implicitDefEqProofs (disch := omega) only [go_sem]
  have hL0 : L 0 = [] := by rw [hL]; simp [lsR]
  have hZ0 : Z 0 = none := by rw [hZ]; simp
  have hLne : ∀ v, v < 6 → v ≠ j → L v ++ [.agg [.sl 1 ((gd p v).1.map I), .v (.string (gd p v).2)]] = L (v + 1) := fun v hv hn => by
    rw [hL]; simp only; rw [List.take_add_one, gd_some p v (by omega)]
    exact lsR_ne (by rw [List.length_take]; omega)
  have hLeq : j < 6 → AV.rnL (swp 62915072 62914625) (L j ++ [.agg [.own 62915072 1 0 8, .v (.string (gd p j).2)]]) = L (j + 1) := fun hj6 => by
    rw [hL]; simp only; rw [List.take_add_one, gd_some p j (by omega), lsR_ge (by rw [List.length_take]; omega)]
    exact rn_last (by rw [List.length_take]; omega) rfl
  have hZne : ∀ v, v ≠ j → Z v = Z (v + 1) := fun v hn => by
    rw [hZ]; simp only
    by_cases e : j < v
    · rw [if_pos e, if_pos (by omega)]
    · rw [if_neg e, if_neg (by omega)]
  have hZeq : Z (j + 1) = some ⟨3, 1, (gd p j).1.map I⟩ := by rw [hZ]; simp
  refine ev_ofB [1, 2, 4, 5, 30] Tryd.func29 rfl (by kernel_rfl) mo (Nat.le_of_ble_eq_true rfl) ?_
  simp -implicitDefEqProofs (disch := omega) only [go_sem, Tryd.ntmps29]
  refine region_K (fun D E σ => E 1 = I how ∧ E 2 = I x ∧ E 3 = I y ∧ E 4 = .ptr 62914624 4 0 0 ∧ E 8 = .ptr 62914688 4 0 0 ∧ E 9 = B false ∧ σ 62914624 = some ⟨51, 4, [.agg [I h, CL l, Str s, RPL p]]⟩ ∧ σ 62914688 = some ⟨51, 4, [.agg [I 0, .v (.slice none 0 0), Str ByteArray.empty, .v (.slice none 0 0)]]⟩ ∧ σ 62914625 = Z 0 ∧ (D 10 = true → D 8 = true) ∧ (D 8 = true → D 5 = true) ∧ (D 5 = true → D 2 = true) ∧ (D 10 = true → D 9 = true) ∧ (D 2 = true → D 5 = false → σ 62914816 = some ⟨30, 5, []⟩) ∧ (D 2 = true → D 5 = false → E 16 = .own 62914816 5 0 0) ∧ (D 5 = true → σ 62914816 = some ⟨30, 5, l.map CH⟩) ∧ (D 5 = true → E 19 = .own 62914816 5 0 l.length) ∧ (D 9 = true → D 10 = false → σ 62914720 = some ⟨51, 4, [.agg [I 0, .v (.slice none 0 0), Str ByteArray.empty, .v (.slice none 0 0)]]⟩) ∧ (D 10 = true → σ 62914720 = some ⟨51, 4, [.agg [I h, .own 62914816 5 0 l.length, Str s, .v (.slice none 0 0)]]⟩) ∧ (D 0 = true → E 14 = .ptr 62914624 4 0 0) ∧ (D 1 = true → E 15 = I h) ∧ (D 3 = true → E 17 = .ptr 62914624 4 0 1) ∧ (D 4 = true → E 18 = CL l) ∧ (D 6 = true → E 20 = .ptr 62914624 4 0 2) ∧ (D 7 = true → E 21 = Str s) ∧ (D 8 = true → E 22 = .agg [I h, .own 62914816 5 0 l.length, Str s, .v (.slice none 0 0)]) ∧ (D 9 = true → E 10 = .ptr 62914720 4 0 0)) ?_ ?_ ?_
  · simp -implicitDefEqProofs (disch := omega) only [go_sem, hZk, hZ0]
    simp
  · simp only [stepsK, depK, Region.binds, eq_self, forall_const, and_true]
    repeat' apply And.intro
    all_goals
      rintro D E σ ⟨e1, e2, e3, e4, e8, e9, s4, s8, sX, c10_8, c8_5, c5_2, c10_9, m0_0, n0_0, m0_1, n0_1, m1_0, m1_1, j0, j1, j3, j4, j6, j7, j8, j9⟩ hd
      have k := And.intro trivial <| And.intro (cK c10_8) <| And.intro (cK c8_5) <| And.intro (cK c5_2) <| And.intro (cK c10_9) trivial
      simp -implicitDefEqProofs (disch := first | assumption | (simp only [hd, k]; done) | omega) only [go_sem, e1, e2, e3, e4, e8, e9, s4, s8, sX, m0_0, n0_0, m0_1, n0_1, m1_0, m1_1, j0, j1, j3, j4, j6, j7, j8, j9, hZk, hZ0]
      repeat' apply And.intro
      all_goals first | assumption | (intro _; assumption) | trivial | (simp -implicitDefEqProofs (contextual := true) (disch := first | assumption | omega) only [go_sem, m0_0, n0_0, m0_1, n0_1, m1_0, m1_1, j0, j1, j3, j4, j6, j7, j8, j9, hd, c10_8, c8_5, c5_2, c10_9, k, implies_true, forall_const, false_implies, true_implies]; done) | (intro h; intros; exfalso; simp (maxDischargeDepth := 9) [hd, k] at h; done) | (intros; contradiction) | trace_state
  · rintro D E σ hD ⟨e1, e2, e3, e4, e8, e9, s4, s8, sX, c10_8, c8_5, c5_2, c10_9, m0_0, n0_0, m0_1, n0_1, m1_0, m1_1, j0, j1, j3, j4, j6, j7, j8, j9⟩
    have g0 := m0_1 (hD 5 (by decide))
    have f0 := n0_1 (hD 5 (by decide))
    have g1 := m1_1 (hD 10 (by decide))
    have q0 := j0 (hD 0 (by decide))
    have q1 := j1 (hD 1 (by decide))
    have q3 := j3 (hD 3 (by decide))
    have q4 := j4 (hD 4 (by decide))
    have q6 := j6 (hD 6 (by decide))
    have q7 := j7 (hD 7 (by decide))
    have q8 := j8 (hD 8 (by decide))
    have q9 := j9 (hD 9 (by decide))
    clear c10_8 c8_5 c5_2 c10_9 m0_0 n0_0 m0_1 n0_1 m1_0 m1_1 j0 j1 j3 j4 j6 j7 j8 j9 hD
    refine nilOwn_C 62914720 62914721 0 3 35 2 (k := ⟨51, 4, [.agg [I h, .own 62914816 5 0 l.length, Str s, .v (.slice none 0 0)]]⟩) (el := .agg [I h, .own 62914816 5 0 l.length, Str s, .v (.slice none 0 0)]) (by simp -implicitDefEqProofs (disch := omega) only [go_sem, g1]) (by decide) rfl rfl (by simp) (by simp -implicitDefEqProofs (disch := omega) only [go_sem]) rfl ?_
    refine reg_mk Plain.mono ?_
    simp -implicitDefEqProofs (disch := omega) only [go_sem, e1, e2, e3, e4, e8, e9, s4, s8, sX, hZk, g0, g1, q9]
    refine loopC_mk (fun n E σ => ∃ v : Nat, v + n = 6 ∧ E 1 = I how ∧ E 2 = I x ∧ E 3 = I y ∧ E 4 = .ptr 62914624 4 0 0 ∧ E 8 = .ptr 62914688 4 0 0 ∧ E 9 = B false ∧ E 10 = .ptr 62914720 4 0 0 ∧ E 11 = I v ∧ σ 62914624 = some ⟨51, 4, [.agg [I h, CL l, Str s, RPL p]]⟩ ∧ σ 62914688 = some ⟨51, 4, [.agg [I 0, .v (.slice none 0 0), Str ByteArray.empty, .v (.slice none 0 0)]]⟩ ∧ σ 62914816 = some ⟨30, 5, l.map CH⟩ ∧ σ 62914720 = some ⟨51, 4, [.agg [I h, .own 62914816 5 0 l.length, Str s, .own 62914721 2 0 v]]⟩ ∧ σ 62914721 = some ⟨35, 2, L v⟩ ∧ σ 62914625 = Z v) 6 ⟨0, by omega, ?_⟩ ?_
    · simp -implicitDefEqProofs (disch := omega) only [go_sem, e1, e2, e3, e4, e8, e9, s4, s8, sX, hZk, g0, g1, q9]
      simp [hL0, and_self]
    clear e1 e2 e3 e4 e8 e9 s4 s8 sX g0 g1 f0 q0 q1 q3 q4 q6 q7 q8 q9 E σ
    rintro n E σ ⟨v, hv, e1, e2, e3, e4, e8, e9, e10, e11, s4, s8, sC, s10, sP, sX⟩
    simp -implicitDefEqProofs (disch := omega) only [go_sem, e1, e2, e3, e4, e8, e9, e10, e11, s4, s8, sC, s10, sP, sX, hZk]
    refine branch_mk (fun hc => ?_) (fun hc => ?_)
    · have hg := sml_le hpt (v := v) (by omega)
      have hg8 := hg.1
      have hgt : (gd p v).1.take 8 = (gd p v).1 := List.take_of_length_le (by omega)
      have hlv := hLl v (by omega)
      have htk : (L v).take v = L v := List.take_of_length_le (by omega)
      have hLne' := hLne v (by omega)
      have hLeq' := hLeq
      have hLP : AV.namesL (isId 62914721) (L v ++ [.agg [.own 62915072 1 0 8, .v (.string (gd p v).2)]]) = false := namesL_snoc _ _ _ (hLn v _ rfl) rfl
      simp -implicitDefEqProofs (disch := omega) only [go_sem, e1, e2, e3, e4, e8, e9, e10, e11, s4, s8, sC, s10, sP, sX, hZk]
      refine region_K (fun D E σ => E 1 = I how ∧ E 2 = I x ∧ E 3 = I y ∧ E 4 = .ptr 62914624 4 0 0 ∧ E 8 = .ptr 62914688 4 0 0 ∧ E 9 = B false ∧ E 10 = .ptr 62914720 4 0 0 ∧ E 11 = I v ∧ σ 62914624 = some ⟨51, 4, [.agg [I h, CL l, Str s, RPL p]]⟩ ∧ σ 62914688 = some ⟨51, 4, [.agg [I 0, .v (.slice none 0 0), Str ByteArray.empty, .v (.slice none 0 0)]]⟩ ∧ σ 62914816 = some ⟨30, 5, l.map CH⟩ ∧ σ 62914625 = Z v ∧ (D 20 = true → D 18 = true) ∧ (D 18 = true → D 17 = true) ∧ (D 17 = true → D 16 = true) ∧ (D 16 = true → D 9 = true) ∧ (D 9 = true → D 2 = true) ∧ (D 18 = true → D 1 = true) ∧ (D 2 = true → D 9 = false → σ 62915072 = some ⟨3, 1, []⟩) ∧ (D 2 = true → D 9 = false → E 32 = .own 62915072 1 0 0) ∧ (D 9 = true → σ 62915072 = some ⟨3, 1, (gd p v).1.map I⟩) ∧ (D 9 = true → E 39 = .own 62915072 1 0 8) ∧ (D 17 = true → σ 62915312 = some ⟨35, 2, [.agg [.own 62915072 1 0 8, Str (gd p v).2]]⟩) ∧ (D 17 = true → E 47 = .own 62915312 2 0 1) ∧ (D 1 = false → σ 62914721 = some ⟨35, 2, L v⟩) ∧ (D 1 = true → D 18 = false → σ 62914721 = some ⟨35, 2, L v⟩) ∧ (D 1 = true → D 18 = false → E 31 = .own 62914721 2 0 v) ∧ (D 18 = true → σ 62914721 = some ⟨35, 2, L v ++ [.agg [.own 62915072 1 0 8, Str (gd p v).2]]⟩) ∧ (D 18 = true → E 48 = .own 62914721 2 0 (v + 1)) ∧ (D 18 = false → σ 62914720 = some ⟨51, 4, [.agg [I h, .own 62914816 5 0 l.length, Str s, .own 62914721 2 0 v]]⟩) ∧ (D 18 = true → D 20 = false → σ 62914720 = some ⟨51, 4, [.agg [I h, .own 62914816 5 0 l.length, Str s, .any]]⟩) ∧ (D 20 = true → σ 62914720 = some ⟨51, 4, [.agg [I h, .own 62914816 5 0 l.length, Str s, .own 62914721 2 0 (v + 1)]]⟩) ∧ (D 0 = true → E 30 = .ptr 62914720 4 0 3) ∧ (D 3 = true → E 33 = .ptr 62914624 4 0 3) ∧ (D 4 = true → E 34 = RPL p) ∧ (D 5 = true → E 35 = I v) ∧ (D 6 = true → E 36 = .pt (RP (gd p v)) 0) ∧ (D 7 = true → E 37 = .pt (RP (gd p v)) 0) ∧ (D 8 = true → E 38 = SL (gd p v).1) ∧ (D 10 = true → E 40 = .ptr 62914624 4 0 3) ∧ (D 11 = true → E 41 = RPL p) ∧ (D 12 = true → E 42 = I v) ∧ (D 13 = true → E 43 = .pt (RP (gd p v)) 0) ∧ (D 14 = true → E 44 = .pt (RP (gd p v)) 1) ∧ (D 15 = true → E 45 = Str (gd p v).2) ∧ (D 16 = true → E 46 = .agg [.own 62915072 1 0 8, Str (gd p v).2]) ∧ (D 19 = true → E 49 = .ptr 62914720 4 0 3)) ?_ ?_ ?_
      · simp -implicitDefEqProofs (disch := omega) only [go_sem, hlv, htk, hLn v, hLP, hZk, hg8, hgt, and_self]
        simp [e1, e2, e3, e4, e8, e9, e10, e11, s4, s8, sC, s10, sP, sX]
      · simp only [stepsK, depK, Region.binds, eq_self, forall_const, and_true]
        repeat' apply And.intro
        all_goals
          rintro D E σ ⟨e1, e2, e3, e4, e8, e9, e10, e11, s4, s8, sC, sX, c20_18, c18_17, c17_16, c16_9, c9_2, c18_1, m0_0, n0_0, m0_1, n0_1, m1_0, n1_0, m2_0, m2_1, n2_1, m2_2, n2_2, m3_0, m3_1, m3_2, j0, j3, j4, j5, j6, j7, j8, j10, j11, j12, j13, j14, j15, j16, j19⟩ hd
          have k := And.intro trivial <| And.intro (cK c20_18) <| And.intro (cK c18_17) <| And.intro (cK c17_16) <| And.intro (cK c16_9) <| And.intro (cK c9_2) <| And.intro (cK c18_1) trivial
          simp -implicitDefEqProofs (disch := first | assumption | (simp only [hd, k]; done) | omega) only [go_sem, e1, e2, e3, e4, e8, e9, e10, e11, s4, s8, sC, sX, m0_0, n0_0, m0_1, n0_1, m1_0, n1_0, m2_0, m2_1, n2_1, m2_2, n2_2, m3_0, m3_1, m3_2, j0, j3, j4, j5, j6, j7, j8, j10, j11, j12, j13, j14, j15, j16, j19, hlv, htk, hLn v, hLP, hZk, hg8, hgt, and_self]
          repeat' apply And.intro
          all_goals first | assumption | (intro _; assumption) | trivial | (simp -implicitDefEqProofs (contextual := true) (disch := first | assumption | omega) only [go_sem, m0_0, n0_0, m0_1, n0_1, m1_0, n1_0, m2_0, m2_1, n2_1, m2_2, n2_2, m3_0, m3_1, m3_2, j0, j3, j4, j5, j6, j7, j8, j10, j11, j12, j13, j14, j15, j16, j19, hd, c20_18, c18_17, c17_16, c16_9, c9_2, c18_1, k, implies_true, forall_const, false_implies, true_implies]; done) | (intro h; intros; exfalso; simp (maxDischargeDepth := 9) [hd, k] at h; done) | (intro h; exact killS_of (m2_0 h) (hLk v _ rfl)) | (intro h1 h2; exact killS_of (m2_1 h1 h2) (hLk v _ rfl)) | (intros; contradiction) | trace_state
      · rintro D E σ hD ⟨e1, e2, e3, e4, e8, e9, e10, e11, s4, s8, sC, sX, c20_18, c18_17, c17_16, c16_9, c9_2, c18_1, m0_0, n0_0, m0_1, n0_1, m1_0, n1_0, m2_0, m2_1, n2_1, m2_2, n2_2, m3_0, m3_1, m3_2, j0, j3, j4, j5, j6, j7, j8, j10, j11, j12, j13, j14, j15, j16, j19⟩
        have g0 := m0_1 (hD 9 (by decide))
        have f0 := n0_1 (hD 9 (by decide))
        have g1 := m1_0 (hD 17 (by decide))
        have f1 := n1_0 (hD 17 (by decide))
        have g2 := m2_2 (hD 18 (by decide))
        have f2 := n2_2 (hD 18 (by decide))
        have g3 := m3_2 (hD 20 (by decide))
        have q0 := j0 (hD 0 (by decide))
        have q3 := j3 (hD 3 (by decide))
        have q4 := j4 (hD 4 (by decide))
        have q5 := j5 (hD 5 (by decide))
        have q6 := j6 (hD 6 (by decide))
        have q7 := j7 (hD 7 (by decide))
        have q8 := j8 (hD 8 (by decide))
        have q10 := j10 (hD 10 (by decide))
        have q11 := j11 (hD 11 (by decide))
        have q12 := j12 (hD 12 (by decide))
        have q13 := j13 (hD 13 (by decide))
        have q14 := j14 (hD 14 (by decide))
        have q15 := j15 (hD 15 (by decide))
        have q16 := j16 (hD 16 (by decide))
        have q19 := j19 (hD 19 (by decide))
        clear c20_18 c18_17 c17_16 c16_9 c9_2 c18_1 m0_0 n0_0 m0_1 n0_1 m1_0 n1_0 m2_0 m2_1 n2_1 m2_2 n2_2 m3_0 m3_1 m3_2 j0 j3 j4 j5 j6 j7 j8 j10 j11 j12 j13 j14 j15 j16 j19 hD
        by_cases hvj : v = j
        · subst hvj
          refine rn_sem 62915072 62914625 ?_
          refine reg_mk Plain.mono ?_
          simp -implicitDefEqProofs (disch := omega) only [go_sem, e1, e2, e3, e4, e8, e9, e10, e11, s4, s8, sC, sX, hZk, hZf, hLeq', g0, g2, g3]
          refine againQ_mk (n - 1) (by omega) ⟨v + 1, by omega, ?_⟩
          simp -implicitDefEqProofs (disch := omega) only [go_sem, e1, e2, e3, e4, e8, e9, e10, e11, s4, s8, sC, sX, hZk, hZf, hLeq', hZeq, g0, g2, g3]
          simp
        · refine freeze_reg Plain.mono [62915072] ?_
          have hnam : AV.namesL (notI (notI (inI [62915072]))) (L v ++ [.agg [.own 62915072 1 0 8, .v (.string (gd p v).2)]]) = true := namesL_last _ _ _ (by rfl)
          have hLf' : ∀ r σ, (L v).map (frzE (notI (inI [62915072])) r σ) = L v := fun r σ => hLf v _ r σ (by rfl)
          have hLne2 := hLne' hvj
          have hZn := hZne v hvj
          simp -implicitDefEqProofs (disch := omega) only [go_sem, e1, e2, e3, e4, e8, e9, e10, e11, s4, s8, sC, sX, hZk, hZf, hLf', hnam, hLne2, g0, g2, g3]
          refine againQ_mk (n - 1) (by omega) ⟨v + 1, by omega, ?_⟩
          simp -implicitDefEqProofs (disch := omega) only [go_sem, e1, e2, e3, e4, e8, e9, e10, e11, s4, s8, sC, sX, hZk, hZf, hLf', hLne2, hnam, hg8, hgt, List.map_append, List.map_cons, List.map_nil, g0, g2, g3]
          exact ⟨by simp, hZn⟩
    · obtain rfl : v = 6 := by omega
      simp -implicitDefEqProofs (disch := omega) only [go_sem, e1, e2, e3, e4, e8, e9, e10, e11, s4, s8, sC, s10, sP, sX, hZk]
      refine callC_at pk ?_
      simp -implicitDefEqProofs (disch := omega) only [go_sem, e1, e2, e3, e4, e8, e9, e10, e11, s4, s8, sC, s10, sP, sX, hZk, hLo, hLi]
      refine branch_join (fun E σ => E 65 = B (decide (k = 0 ∨ k = 1)) ∧ E 51 = I k ∧ E 1 = I how ∧ E 2 = I x ∧ E 3 = I y ∧ E 4 = .ptr 62914624 4 0 0 ∧ E 8 = .ptr 62914688 4 0 0 ∧ E 9 = B false ∧ E 10 = .ptr 62914720 4 0 0 ∧ E 11 = I (6 : Nat) ∧ σ 62914624 = some ⟨51, 4, [.agg [I h, CL l, Str s, RPL p]]⟩ ∧ σ 62914688 = some ⟨51, 4, [.agg [I 0, .v (.slice none 0 0), Str ByteArray.empty, .v (.slice none 0 0)]]⟩ ∧ σ 62914816 = some ⟨30, 5, l.map CH⟩ ∧ σ 62914720 = some ⟨51, 4, [.agg [I h, .own 62914816 5 0 l.length, Str s, .own 62914721 2 0 6]]⟩ ∧ σ 62914721 = some ⟨35, 2, L 6⟩ ∧ σ 62914625 = Z 6) (fun h0 => ?_) (fun h0 => ?_) ?_
      · simp -implicitDefEqProofs (disch := omega) only [go_sem, e1, e2, e3, e4, e8, e9, e10, e11, s4, s8, sC, s10, sP, sX, h0, hZk, hLo, hLi]
        try simp
      · simp -implicitDefEqProofs (disch := omega) only [go_sem, e1, e2, e3, e4, e8, e9, e10, e11, s4, s8, sC, s10, sP, sX, h0, hZk, hLo, hLi]
        try (by_cases h1 : k = 1 <;> simp [h1])
      clear e1 e2 e3 e4 e8 e9 e10 e11 s4 s8 sC s10 sP sX hc E σ
      rintro E σ ⟨e65, e51, e1, e2, e3, e4, e8, e9, e10, e11, s4, s8, sC, s10, sP, sX⟩
      simp -implicitDefEqProofs (disch := omega) only [go_sem, e1, e2, e3, e4, e8, e9, e10, e11, s4, s8, sC, s10, sP, sX, e65, e51, hZk, hLo, hLi]
      have hpl : ∀ t ∈ p, t.1.length ≤ 100 := fun t ht => by have := (hpt t ht).1; omega
      have hLq : k ≠ 4 → L 6 = p.map RP := fun hk4 => by
        have hj4 : j = 6 := by rw [hj, if_neg hk4]
        rw [hL]; simp only; rw [lsR_ge (by rw [List.length_take]; omega), List.take_of_length_le (by omega)]
      refine branch_nq (fun E σ => E 4 = .ptr 62914624 4 0 0 ∧ E 8 = .ptr 62914688 4 0 0 ∧ E 9 = B false ∧ E 10 = .ptr 62914720 4 0 0 ∧ σ 62914624 = some ⟨51, 4, [.agg [I h, CL l, Str s, RPL p]]⟩ ∧ σ 62914688 = some ⟨51, 4, [.agg [I 0, .v (.slice none 0 0), Str ByteArray.empty, .v (.slice none 0 0)]]⟩ ∧ ∃ (ll : List Ch) (pv : List AV) (pp : List Tot), σ 62914816 = some ⟨30, 5, ll.map CH⟩ ∧ σ 62914720 = some ⟨51, 4, [.agg [I b.h, .own 62914816 5 0 b.l.length, Str b.s, .own 62914721 2 0 b.p.length]]⟩ ∧ σ 62914721 = some ⟨35, 2, pv⟩ ∧ ll.take b.l.length = b.l ∧ b.l.length ≤ 200 ∧ pp.take b.p.length = b.p ∧ (b.p.length ≤ 100 ∧ ∀ t ∈ b.p, t.1.length ≤ 100) ∧ PathFrz 62914625 (σ 62914625) pv pp) (fun h01 => ?_) (fun h01 => ?_) ?_
      · have hLp := hLq (by omega)
        simp -implicitDefEqProofs (disch := omega) only [go_sem, e1, e2, e3, e4, e8, e9, e10, e11, s4, s8, sC, s10, sP, sX, e65, e51, hZk, hLo, hLi]
        refine branch_mk (fun hl0 => ?_) (fun hl0 => ?_)
        · have pyl := pickR_ev y l.length hy (by omega)
          have byl := pickF_in (c := y) (n := l.length) (by omega)
          rw [if_pos h01, if_pos (by omega)] at hb
          generalize pickF y l.length = yl at *
          obtain ⟨q, hq⟩ : ∃ q : Nat, yl = q := ⟨yl.toNat, by omega⟩
          subst hq
          rw [Int.toNat_natCast] at hb
          subst hb
          rw [hLp] at sP
          simp -implicitDefEqProofs (disch := omega) only [go_sem, e1, e2, e3, e4, e8, e9, e10, e11, s4, s8, sC, s10, sP, sX, e65, e51, hZk]
          refine callC_at pyl ?_
          have hw8 : IntKind.i64.wrap (how.tdiv 8) = how.tdiv 8 := wrap64_of (R64_tdiv (d := 8) (by omega) hh)
          have hbc := bentC_ev (gd l q) (how.tdiv 8) x (R64_tdiv (d := 8) (by omega) hh) (hlt _ (gd_mem l q (by omega)))
          simp -implicitDefEqProofs (disch := omega) only [go_sem, e1, e2, e3, e4, e8, e9, e10, e11, s4, s8, sC, s10, sP, sX, e65, e51, hZk, hw8]
          refine callC_at hbc ?_
          simp -implicitDefEqProofs (disch := omega) only [go_sem, e1, e2, e3, e4, e8, e9, e10, e11, s4, s8, sC, s10, sP, sX, e65, e51, hZk, hw8, and_self]
          exact ⟨l.set q (bentC (gd l q) (how.tdiv 8) x), _, p, by rw [List.map_set], by rw [hp], rfl, List.take_of_length_le (by simp), by omega, List.take_of_length_le (by omega), ⟨by omega, hpl⟩, pathFrz_RP _ _ _⟩
        · rw [if_pos h01, if_neg (by omega)] at hb
          subst hb
          rw [hLp] at sP
          obtain rfl : l = [] := List.eq_nil_of_length_eq_zero (by omega)
          simp -implicitDefEqProofs (disch := omega) only [go_sem, e1, e2, e3, e4, e8, e9, e10, e11, s4, s8, sC, s10, sP, sX, e65, e51, hZk]
          refine callC_at px100 ?_
          simp -implicitDefEqProofs (disch := omega) only [go_sem, e1, e2, e3, e4, e8, e9, e10, e11, s4, s8, sC, s10, sP, sX, e65, e51, hZk, and_self]
          exact ⟨[⟨h, 0, 1, x100, ByteArray.empty⟩], _, p, rfl, by rw [hp], rfl, rfl, List.take_of_length_le (by omega), ⟨by omega, hpl⟩, pathFrz_RP _ _ _⟩
      · simp -implicitDefEqProofs (disch := omega) only [go_sem, e1, e2, e3, e4, e8, e9, e10, e11, s4, s8, sC, s10, sP, sX, e65, e51, hZk, hLo, hLi]
        rw [if_neg h01] at hb
        refine branch_mk (fun h2 => ?_) (fun h2 => ?_)
        · have hLp := hLq (by omega)
          rw [if_pos h2] at hb
          subst hb
          rw [hLp] at sP
          simp -implicitDefEqProofs (disch := omega) only [go_sem, e1, e2, e3, e4, e8, e9, e10, e11, s4, s8, sC, s10, sP, sX, e65, e51, hZk, and_self]
          refine callC_at (sumR_ev s (by omega)) ?_
          simp -implicitDefEqProofs (disch := omega) only [go_sem, e1, e2, e3, e4, e8, e9, e10, e11, s4, s8, sC, s10, sP, sX, e65, e51, hZk, and_self]
          exact ⟨l, _, p, rfl, by rw [hp], rfl, List.take_of_length_le (Nat.le_refl _), by omega, List.take_of_length_le (by omega), ⟨by omega, hpl⟩, pathFrz_RP _ _ _⟩
        rw [if_neg h2] at hb
        simp -implicitDefEqProofs (disch := omega) only [go_sem, e1, e2, e3, e4, e8, e9, e10, e11, s4, s8, sC, s10, sP, sX, e65, e51, hZk, hLo, hLi, h2]
        refine branch_mk (fun h3 => ?_) (fun h3 => ?_)
        · have hLp := hLq (by omega)
          rw [if_pos h3] at hb
          subst hb
          rw [hLp] at sP
          simp -implicitDefEqProofs (disch := omega) only [go_sem, e1, e2, e3, e4, e8, e9, e10, e11, s4, s8, sC, s10, sP, sX, e65, e51, hZk, and_self]
          exact ⟨l, _, p, rfl, by rw [hp], rfl, List.take_of_length_le (Nat.le_refl _), by omega, List.take_of_length_le (by omega), ⟨by omega, hpl⟩, pathFrz_RP _ _ _⟩
        rw [if_neg h3] at hb
        simp -implicitDefEqProofs (disch := omega) only [go_sem, e1, e2, e3, e4, e8, e9, e10, e11, s4, s8, sC, s10, sP, sX, e65, e51, hZk, hLo, hLi, h2, h3]
        refine branch_mk (fun h4 => ?_) (fun h4 => ?_)
        · rw [if_pos h4] at hb
          subst hb
          obtain ⟨q, hq⟩ : ∃ q : Nat, y6 = q := ⟨y6.toNat, by omega⟩
          subst hq
          rw [Int.toNat_natCast]
          obtain ⟨r, hr⟩ : ∃ r : Nat, x8 = r := ⟨x8.toNat, by omega⟩
          subst hr
          rw [Int.toNat_natCast]
          rw [if_pos h4, Int.toNat_natCast] at hj
          have hgq := hpt _ (gd_mem p q (by omega))
          have hLe : L 6 = lsR 62914625 q (gd p q) p := by rw [hL, hj]; simp only; rw [List.take_of_length_le (by omega)]
          have hLat : (L 6)[q]? = some (.agg [.own 62914625 1 0 8, .v (.string (gd p q).2)]) := by
            rw [hLe]; unfold lsR elR; rw [List.getElem?_set_self (by simp; omega)]
          have hZ6 : Z 6 = some ⟨3, 1, (gd p q).1.map I⟩ := by rw [hZ, hj]; simp only; rw [if_pos (by omega)]
          have hLs : AV.namesL (inL [3932282, 3932287, 3932291]) (L 6) = false := hLn 6 _ rfl
          have hgb := hgq.2.1 _ (gd_mem (gd p q).1 r (by have := hgq.1; omega))
          simp -implicitDefEqProofs (disch := omega) only [go_sem, e1, e2, e3, e4, e8, e9, e10, e11, s4, s8, sC, s10, sP, sX, e65, e51, hZk, and_self]
          refine branch_l (by omega) ?_
          simp -implicitDefEqProofs (disch := omega) only [go_sem, e1, e2, e3, e4, e8, e9, e10, e11, s4, s8, sC, s10, sP, sX, e65, e51, hZk, and_self]
          refine callC_at py6 ?_
          simp -implicitDefEqProofs (disch := omega) only [go_sem, e1, e2, e3, e4, e8, e9, e10, e11, s4, s8, sC, s10, sP, sX, e65, e51, hZk, hLs, hLat, hZ6, and_self]
          refine callC_at px8 ?_
          have h8q := hgq.1
          simp -implicitDefEqProofs (disch := omega) only [go_sem, e1, e2, e3, e4, e8, e9, e10, e11, s4, s8, sC, s10, sP, sX, e65, e51, hZk, hLs, hLat, hZ6, h8q, and_self]
          refine callC_at px9 ?_
          simp -implicitDefEqProofs (disch := omega) only [go_sem, e1, e2, e3, e4, e8, e9, e10, e11, s4, s8, sC, s10, sP, sX, e65, e51, hZk, hLs, hLat, hZ6, h8q, and_self]
          rw [hLe]
          refine ⟨l, _, _, rfl, by rw [hp], rfl, List.take_of_length_le (Nat.le_refl _), by omega, List.take_of_length_le (by simp), ⟨by omega, fun t ht => ?_⟩, pathFrz_one (by omega) (by simp [h8q]) rfl⟩
          rcases List.mem_or_eq_of_mem_set ht with h1 | h1
          · exact hpl t h1
          · rw [h1]; simp [h8q]
        have hLp := hLq (by omega)
        rw [hLp] at sP
        rw [if_neg h4] at hb
        simp -implicitDefEqProofs (disch := omega) only [go_sem, e1, e2, e3, e4, e8, e9, e10, e11, s4, s8, sC, s10, sP, sX, e65, e51, hZk, hLo, hLi, h2, h3, h4]
        refine branch_mk (fun h5 => ?_) (fun h5 => ?_)
        · rw [if_pos h5] at hb
          subst hb
          obtain ⟨q, hq⟩ : ∃ q : Nat, y6 = q := ⟨y6.toNat, by omega⟩
          subst hq
          rw [Int.toNat_natCast]
          simp -implicitDefEqProofs (disch := omega) only [go_sem, e1, e2, e3, e4, e8, e9, e10, e11, s4, s8, sC, s10, sP, sX, e65, e51, hZk, and_self]
          refine branch_l (by omega) ?_
          simp -implicitDefEqProofs (disch := omega) only [go_sem, e1, e2, e3, e4, e8, e9, e10, e11, s4, s8, sC, s10, sP, sX, e65, e51, hZk, and_self]
          refine callC_at py6 ?_
          have hgq := hpt _ (gd_mem p q (by omega))
          simp -implicitDefEqProofs (disch := omega) only [go_sem, e1, e2, e3, e4, e8, e9, e10, e11, s4, s8, sC, s10, sP, sX, e65, e51, hZk, and_self]
          refine callC_at (sumR_ev (gd p q).2 (by have := hgq.2.2; omega)) ?_
          simp -implicitDefEqProofs (disch := omega) only [go_sem, e1, e2, e3, e4, e8, e9, e10, e11, s4, s8, sC, s10, sP, sX, e65, e51, hZk, and_self]
          refine ⟨l, _, p.set q ((gd p q).1, shaF (gd p q).2), rfl, by rw [hp], rfl, List.take_of_length_le (Nat.le_refl _), by omega, List.take_of_length_le (by simp), ⟨by omega, fun t ht => ?_⟩, pathFrz_eq _ _ (by rw [List.map_set])⟩
          rcases List.mem_or_eq_of_mem_set ht with h1 | h1
          · exact hpl t h1
          · rw [h1]; exact hpl (gd p q) (gd_mem p q (by omega))
        rw [if_neg h5] at hb
        simp -implicitDefEqProofs (disch := omega) only [go_sem, e1, e2, e3, e4, e8, e9, e10, e11, s4, s8, sC, s10, sP, sX, e65, e51, hZk, hLo, hLi, h2, h3, h4, h5]
        refine branch_mk (fun h6 => ?_) (fun h6 => ?_)
        · rw [if_pos h6] at hb
          subst hb
          simp -implicitDefEqProofs (disch := omega) only [go_sem, e1, e2, e3, e4, e8, e9, e10, e11, s4, s8, sC, s10, sP, sX, e65, e51, hZk, and_self]
          refine branch_l (by omega) ?_
          simp -implicitDefEqProofs (disch := omega) only [go_sem, e1, e2, e3, e4, e8, e9, e10, e11, s4, s8, sC, s10, sP, sX, e65, e51, hZk, and_self]
          have h56 : (p.take 5).length = 5 := by rw [List.length_take, hp]; rfl
          exact ⟨l, _, p, rfl, by rw [h56]; rfl, rfl, List.take_of_length_le (Nat.le_refl _), by omega, by rw [h56], ⟨by omega, fun t ht => hpl t (List.mem_of_mem_take ht)⟩, pathFrz_RP _ _ _⟩
        rw [if_neg h6] at hb
        simp -implicitDefEqProofs (disch := omega) only [go_sem, e1, e2, e3, e4, e8, e9, e10, e11, s4, s8, sC, s10, sP, sX, e65, e51, hZk, hLo, hLi, h2, h3, h4, h5, h6]
        refine branch_mk (fun hl0 => ?_) (fun hl0 => ?_)
        · rw [if_pos (by omega)] at hb
          subst hb
          have hn1 : ((l.length : Int) - 1).toNat - 0 = l.length - 1 := by omega
          have hn2 : (l.take (l.length - 1)).length = l.length - 1 := by rw [List.length_take]; omega
          simp -implicitDefEqProofs (disch := omega) only [go_sem, e1, e2, e3, e4, e8, e9, e10, e11, s4, s8, sC, s10, sP, sX, e65, e51, hZk, hn1, hn2, and_self]
          exact ⟨l, _, p, rfl, by rw [hp], rfl, rfl, by omega, List.take_of_length_le (by omega), ⟨by omega, hpl⟩, pathFrz_RP _ _ _⟩
        · rw [if_neg (by omega)] at hb
          subst hb
          simp -implicitDefEqProofs (disch := omega) only [go_sem, e1, e2, e3, e4, e8, e9, e10, e11, s4, s8, sC, s10, sP, sX, e65, e51, hZk, and_self]
          exact ⟨l, _, p, rfl, by rw [hp]; rfl, rfl, List.take_of_length_le (Nat.le_refl _), by omega, List.take_of_length_le (by omega), ⟨by omega, hpl⟩, pathFrz_RP _ _ _⟩
      · clear e1 e2 e3 e4 e8 e9 e10 e11 s4 s8 sC s10 sP sX e65 e51 E σ
        rintro E σ ⟨e4, e8, e9, e10, s4, s8, ll, pv, pp, sC, s10, sP, hll, hlb, hpp, hpb, hz⟩
        simp -implicitDefEqProofs (disch := omega) only [go_sem, e4, e8, e9, e10, s4, s8, sC, s10, sP]
        refine freeze_sem [62914625] ?_
        have hz' := hz σ rfl
        have a4 : frE (inI [62914625]) σ E 4 = .ptr 62914624 4 0 0 := by simp -implicitDefEqProofs (disch := omega) only [go_sem, e4]
        have a8 : frE (inI [62914625]) σ E 8 = .ptr 62914688 4 0 0 := by simp -implicitDefEqProofs (disch := omega) only [go_sem, e8]
        have a10 : frE (inI [62914625]) σ E 10 = .ptr 62914720 4 0 0 := by simp -implicitDefEqProofs (disch := omega) only [go_sem, e10]
        have b4 : frS (inI [62914625]) σ 62914624 = some ⟨51, 4, [.agg [I h, CL l, Str s, RPL p]]⟩ := by simp -implicitDefEqProofs (disch := omega) only [go_sem, s4]
        have b8 : frS (inI [62914625]) σ 62914688 = some ⟨51, 4, [.agg [I 0, .v (.slice none 0 0), Str ByteArray.empty, .v (.slice none 0 0)]]⟩ := by simp -implicitDefEqProofs (disch := omega) only [go_sem, s8]
        have bC : frS (inI [62914625]) σ 62914816 = some ⟨30, 5, ll.map CH⟩ := by simp -implicitDefEqProofs (disch := omega) only [go_sem, sC]
        have b10 : frS (inI [62914625]) σ 62914720 = some ⟨51, 4, [.agg [I b.h, .own 62914816 5 0 b.l.length, Str b.s, .own 62914721 2 0 b.p.length]]⟩ := by simp -implicitDefEqProofs (disch := omega) only [go_sem, s10]
        have bP : frS (inI [62914625]) σ 62914721 = some ⟨35, 2, pp.map RP⟩ := by
          show (if inI [62914625] 62914721 then none else (σ 62914721).map (frzB (notI (inI [62914625])) (inL []) σ)) = _
          rw [sP, Option.map_some, hz']; rfl
        generalize frE (inI [62914625]) σ E = E' at *
        generalize frS (inI [62914625]) σ = σ' at *
        clear e4 e8 e9 e10 s4 s8 sC s10 sP hz hz' E σ
        obtain ⟨bh, bl, bs, bp⟩ := b
        simp only at hll hlb hpp hpb
        have hl1 : bl.length ≤ ll.length := by have := congrArg List.length hll; rw [List.length_take] at this; omega
        have hp1 : bp.length ≤ pp.length := by have := congrArg List.length hpp; rw [List.length_take] at this; omega
        refine freeze_sem [62914816, 62914721] ?_
        refine region_K (fun D E σ => E 4 = .ptr 62914624 4 0 0 ∧ E 8 = .ptr 62914688 4 0 0 ∧ E 10 = .ptr 62914720 4 0 0 ∧ σ 62914624 = some ⟨51, 4, [.agg [I h, CL l, Str s, RPL p]]⟩ ∧ σ 62914720 = some ⟨51, 4, [.agg [I bh, CL bl, Str bs, RPL bp]]⟩ ∧ (D 5 = false → σ 62914688 = some ⟨51, 4, [.agg [I 0, .v (.slice none 0 0), Str ByteArray.empty, .v (.slice none 0 0)]]⟩) ∧ (D 5 = true → σ 62914688 = some ⟨51, 4, [.agg [I bh, CL bl, Str bs, RPL bp]]⟩) ∧ (D 0 = true → E 172 = .agg [I bh, CL bl, Str bs, RPL bp]) ∧ (D 1 = true → E 173 = .agg [I h, CL l, Str s, RPL p]) ∧ (D 2 = true → E 174 = .agg [I bh, CL bl, Str bs, RPL bp]) ∧ (D 3 = true → E 175 = B (decide (h = bh ∧ s = bs ∧ l = bl ∧ p = bp))) ∧ (D 4 = true → E 176 = B (!decide (h = bh ∧ s = bs ∧ l = bl ∧ p = bp))) ∧ (D 6 = true → E 9 = B (!decide (h = bh ∧ s = bs ∧ l = bl ∧ p = bp)))) ?_ ?_ ?_
        · simp -implicitDefEqProofs (disch := omega) only [go_sem, a4, a8, a10, b4, b8, bC, b10, bP, hll, hpp, hl1, hp1, and_self]
          simp
        · simp only [stepsK, depK, Region.binds, eq_self, forall_const, and_true]
          repeat' apply And.intro
          all_goals
            rintro D E σ ⟨e4, e8, e10, s4, s10, m0_0, m0_1, j0, j1, j2, j3, j4, j6⟩ hd
            simp -implicitDefEqProofs (disch := first | assumption | (simp only [hd]; done) | omega) only [go_sem, e4, e8, e10, s4, s10, m0_0, m0_1, j0, j1, j2, j3, j4, j6, a4, a8, a10, b4, b8, bC, b10, bP, hll, hpp, hl1, hp1, and_self]
            try (refine callC_at (same_ev ⟨h, l, s, p⟩ ⟨bh, bl, bs, bp⟩ (show l.length ≤ _ by omega) (show bl.length ≤ _ by omega) (show p.length ≤ _ by omega) (show bp.length ≤ _ by omega) (fun t ht => by have := hpl t ht; omega) (fun t ht => by have := hpb.2 t ht; omega)) ?_; simp -implicitDefEqProofs (disch := first | assumption | (simp only [hd]; done) | omega) only [go_sem, e4, e8, e10, s4, s10, m0_0, m0_1, j0, j1, j2, j3, j4, j6, a4, a8, a10, b4, b8, bC, b10, bP, hll, hpp, hl1, hp1, and_self])
            repeat' apply And.intro
            all_goals first | assumption | (intro _; assumption) | trivial | (simp -implicitDefEqProofs (contextual := true) (disch := first | assumption | omega) only [go_sem, m0_0, m0_1, j0, j1, j2, j3, j4, j6, hd, implies_true, forall_const, false_implies, true_implies]; done) | (intros; contradiction) | trace_state
        · rintro D E σ hD ⟨e4, e8, e10, s4, s10, m0_0, m0_1, j0, j1, j2, j3, j4, j6⟩
          have g0 := m0_1 (hD 5 (by decide))
          have q0 := j0 (hD 0 (by decide))
          have q1 := j1 (hD 1 (by decide))
          have q2 := j2 (hD 2 (by decide))
          have q3 := j3 (hD 3 (by decide))
          have q4 := j4 (hD 4 (by decide))
          have q6 := j6 (hD 6 (by decide))
          clear m0_0 m0_1 j0 j1 j2 j3 j4 j6 hD
          simp -implicitDefEqProofs (disch := omega) only [go_sem, e4, e8, e10, s4, s10, g0, q6, Tryd.results29]
end Go.Proofs.YtgbcfpcjljhijaaDoor
set_option maxRecDepth 100000
namespace Go.Proofs.YtgbcfpcjljhijaaDoor
open Go.Vai Go Go.Proofs
open Nat (reduceEqDiff reduceMul reduceAdd reduceDiv reduceLeDiff)
open Int (reduceToNat reduceNe reduceEq reduceLT reduceLE)
theorem bentF_small {a : Acc} (how x y : Int) (hl : a.l.length ≤ 60) (hp : a.p.length = 6) (ht : ∀ t ∈ a.p, t.1.length = 8) : (bentF a how x y).l.length ≤ 100 ∧ (bentF a how x y).p.length ≤ 6 ∧ ∀ t ∈ (bentF a how x y).p, t.1.length = 8 := by
  have hy := pickF_in (c := y) (n := 6) (by omega)
  have hg := ht _ (gd_mem a.p (pickF y 6).toNat (by omega))
  unfold bentF
  split
  · split
    · exact ⟨by simp; omega, by show a.p.length ≤ _; omega, ht⟩
    · exact ⟨by simp, by show a.p.length ≤ _; omega, ht⟩
  split
  · exact ⟨by show a.l.length ≤ _; omega, by show a.p.length ≤ _; omega, ht⟩
  split
  · exact ⟨by show a.l.length ≤ _; omega, by show a.p.length ≤ _; omega, ht⟩
  split
  · refine ⟨by show a.l.length ≤ _; omega, by simp; omega, fun t h => ?_⟩
    rcases List.mem_or_eq_of_mem_set h with h1 | h1
    · exact ht t h1
    · rw [h1]; simpa using hg
  split
  · refine ⟨by show a.l.length ≤ _; omega, by simp; omega, fun t h => ?_⟩
    rcases List.mem_or_eq_of_mem_set h with h1 | h1
    · exact ht t h1
    · rw [h1]; simpa using hg
  split
  · exact ⟨by show a.l.length ≤ _; omega, by simp; omega, fun t h => ht t (List.mem_of_mem_take h)⟩
  split
  · exact ⟨by simp; omega, by show a.p.length ≤ _; omega, ht⟩
  · exact ⟨by show a.l.length ≤ _; omega, by show a.p.length ≤ _; omega, ht⟩
instance : Inhabited Acc := ⟨⟨0, [], ⟨#[]⟩, []⟩⟩
theorem sums_R64 {l : List Ch} (hl : ∀ c ∈ l, c.good) (hn : l.length ≤ 60) : ∀ n ∈ sumsF l, R64 n := fun n hn' => by
  obtain ⟨i, hi, rfl⟩ := List.mem_iff_getElem.1 hn'
  have h8 := sumsF_len l
  have e := sumsF_gd hl (j := i) (by omega)
  rw [gd_get _ i hi] at e
  have := sumJ_le hl i
  rw [e]; unfold R64; omega
theorem bentA_ev {a : Acc} (ha : accOK a = true) (how x y : Int) (hh : R64 how) (hx : R64 x) (hy : R64 y) :
    Ev Tryd.prog 29 [AP a, I how, I x, I y] (.tup [AP (bentF a how x y), B (!decide (a.h = (bentF a how x y).h ∧ a.s = (bentF a how x y).s ∧ a.l = (bentF a how x y).l ∧ a.p = (bentF a how x y).p))]) := by
  obtain ⟨_, ⟨h2, h3⟩, _, h5, h6, h7⟩ := accOK_iff ha
  refine bent_ev a how x y hh hx hy (by omega) (fun c hc => ?_) (by omega) h6 h7
  obtain ⟨_, _, _, _, _, _, _, _, h9⟩ := h3 c hc
  omega
section
variable (p : Nat → Bool) (l : List Acc)
@[go_sem] theorem namesL_AP : AV.namesL p (l.map AP) = false := namesL_map p l AP fun _ => rfl
@[go_sem] theorem allOK_AP : allOK 4 (l.map AP) = true := allOK_map 4 l AP fun _ => ⟨rfl, rfl⟩
end
end Go.Proofs.YtgbcfpcjljhijaaDoor
set_option maxRecDepth 100000
namespace Go.Proofs.YtgbcfpcjljhijaaDoor
open Go.Vai Go Go.Proofs
open Nat (reduceEqDiff reduceMul reduceAdd reduceDiv reduceLeDiff)
open Int (reduceToNat reduceNe reduceEq reduceLT reduceLE)
def acc0 : Acc := ⟨0, [], ⟨#[]⟩, []⟩
def bent0F (how x : Int) : Acc :=
  if pickF how 8 = 0 ∨ pickF how 8 = 1 then ⟨0, [⟨0, 0, 1, pickF x 100, ByteArray.empty⟩], ⟨#[]⟩, []⟩
  else if pickF how 8 = 2 then ⟨0, [], shaF ⟨#[]⟩, []⟩
  else if pickF how 8 = 3 then ⟨x, [], ⟨#[]⟩, []⟩
  else acc0
set_option maxHeartbeats 4000000 in
theorem bent0_ev (how x y : Int) (hh : R64 how) (hx : R64 x) (hy : R64 y) :
    Ev Tryd.prog 29 [AP acc0, I how, I x, I y] (.tup [AP (bent0F how x), B (!decide (acc0.h = (bent0F how x).h ∧ acc0.s = (bent0F how x).s ∧ acc0.l = (bent0F how x).l ∧ acc0.p = (bent0F how x).p))]) := by
  have pk := pickR_ev how 8 hh (by omega)
  have pkb := pickF_in (c := how) (n := 8) (by omega)
  have px100 := pickR_ev x 100 hx (by omega)
  obtain ⟨b, hb⟩ : ∃ b, b = bent0F how x := ⟨_, rfl⟩
  rw [← hb]
  unfold bent0F acc0 at hb
  generalize pickF how 8 = k at *
  generalize pickF x 100 = x100 at *
  have hbp : b.p = [] := by
    rw [hb]; split
    · rfl
    split
    · rfl
    split <;> rfl
  obtain ⟨bh, bl, bs, bp⟩ := b
  simp only at hbp
  simp only [acc0]
  refine Ev.resL (rs := [.agg [I bh, CL bl, Str bs, .v (.slice none 0 0)], B (!decide ((0 : Int) = bh ∧ (⟨#[]⟩ : ByteArray) = bs ∧ ([] : List Ch) = bl ∧ ([] : List Tot) = bp))]) ?_ ⟨asIf_agg ⟨asIf_refl _, asIf_refl _, asIf_refl _, by rw [hbp]; exact asIf_nil 2, trivial⟩, asIf_refl _, trivial⟩
  refine ev_ofB [1, 5, 30] Tryd.func29 rfl (by kernel_rfl) mo (Nat.le_of_ble_eq_true rfl) ?_
  simp -implicitDefEqProofs (disch := omega) only [go_sem, Tryd.ntmps29]
  refine region_K (fun D E σ => E 1 = I how ∧ E 2 = I x ∧ E 3 = I y ∧ E 4 = .ptr 62914624 4 0 0 ∧ E 8 = .ptr 62914688 4 0 0 ∧ E 9 = B false ∧ σ 62914624 = some ⟨51, 4, [.agg [I 0, CL [], Str ⟨#[]⟩, RPL []]]⟩ ∧ σ 62914688 = some ⟨51, 4, [.agg [I 0, .v (.slice none 0 0), Str ByteArray.empty, .v (.slice none 0 0)]]⟩ ∧ (D 10 = true → D 8 = true) ∧ (D 8 = true → D 5 = true) ∧ (D 5 = true → D 2 = true) ∧ (D 10 = true → D 9 = true) ∧ (D 2 = true → D 5 = false → σ 62914816 = some ⟨30, 5, []⟩) ∧ (D 2 = true → D 5 = false → E 16 = .own 62914816 5 0 0) ∧ (D 5 = true → σ 62914816 = some ⟨30, 5, []⟩) ∧ (D 5 = true → E 19 = .own 62914816 5 0 0) ∧ (D 9 = true → D 10 = false → σ 62914720 = some ⟨51, 4, [.agg [I 0, .v (.slice none 0 0), Str ByteArray.empty, .v (.slice none 0 0)]]⟩) ∧ (D 10 = true → σ 62914720 = some ⟨51, 4, [.agg [I 0, .own 62914816 5 0 0, Str ⟨#[]⟩, .v (.slice none 0 0)]]⟩) ∧ (D 0 = true → E 14 = .ptr 62914624 4 0 0) ∧ (D 1 = true → E 15 = I 0) ∧ (D 3 = true → E 17 = .ptr 62914624 4 0 1) ∧ (D 4 = true → E 18 = .sl 5 []) ∧ (D 6 = true → E 20 = .ptr 62914624 4 0 2) ∧ (D 7 = true → E 21 = Str ⟨#[]⟩) ∧ (D 8 = true → E 22 = .agg [I 0, .own 62914816 5 0 0, Str ⟨#[]⟩, .v (.slice none 0 0)]) ∧ (D 9 = true → E 10 = .ptr 62914720 4 0 0)) ?_ ?_ ?_
  · simp -implicitDefEqProofs (disch := omega) only [go_sem]
    simp
  · simp only [stepsK, depK, Region.binds, eq_self, forall_const, and_true]
    repeat' apply And.intro
    all_goals
      rintro D E σ ⟨e1, e2, e3, e4, e8, e9, s4, s8, c10_8, c8_5, c5_2, c10_9, m0_0, n0_0, m0_1, n0_1, m1_0, m1_1, j0, j1, j3, j4, j6, j7, j8, j9⟩ hd
      have k := And.intro trivial <| And.intro (cK c10_8) <| And.intro (cK c8_5) <| And.intro (cK c5_2) <| And.intro (cK c10_9) trivial
      simp -implicitDefEqProofs (disch := first | assumption | (simp only [hd, k]; done) | omega) only [go_sem, e1, e2, e3, e4, e8, e9, s4, s8, m0_0, n0_0, m0_1, n0_1, m1_0, m1_1, j0, j1, j3, j4, j6, j7, j8, j9]
      repeat' apply And.intro
      all_goals first | assumption | (intro _; assumption) | trivial | (simp -implicitDefEqProofs (contextual := true) (disch := first | assumption | omega) only [go_sem, m0_0, n0_0, m0_1, n0_1, m1_0, m1_1, j0, j1, j3, j4, j6, j7, j8, j9, hd, c10_8, c8_5, c5_2, c10_9, k, implies_true, forall_const, false_implies, true_implies]; done) | (intro h; intros; exfalso; simp (maxDischargeDepth := 9) [hd, k] at h; done) | (intro _; rfl) | (intros; contradiction) | trace_state
  · rintro D E σ hD ⟨e1, e2, e3, e4, e8, e9, s4, s8, c10_8, c8_5, c5_2, c10_9, m0_0, n0_0, m0_1, n0_1, m1_0, m1_1, j0, j1, j3, j4, j6, j7, j8, j9⟩
    have g0 := m0_1 (hD 5 (by decide))
    have f0 := n0_1 (hD 5 (by decide))
    have g1 := m1_1 (hD 10 (by decide))
    have q0 := j0 (hD 0 (by decide))
    have q1 := j1 (hD 1 (by decide))
    have q3 := j3 (hD 3 (by decide))
    have q4 := j4 (hD 4 (by decide))
    have q6 := j6 (hD 6 (by decide))
    have q7 := j7 (hD 7 (by decide))
    have q8 := j8 (hD 8 (by decide))
    have q9 := j9 (hD 9 (by decide))
    clear c10_8 c8_5 c5_2 c10_9 m0_0 n0_0 m0_1 n0_1 m1_0 m1_1 j0 j1 j3 j4 j6 j7 j8 j9 hD
    simp -implicitDefEqProofs (disch := omega) only [go_sem, e1, e2, e3, e4, e8, e9, s4, s8, g0, g1, q9]
    refine loopC_mk (fun n E σ => n = 0 ∧ E 1 = I how ∧ E 2 = I x ∧ E 3 = I y ∧ E 4 = .ptr 62914624 4 0 0 ∧ E 8 = .ptr 62914688 4 0 0 ∧ E 9 = B false ∧ E 10 = .ptr 62914720 4 0 0 ∧ E 11 = I 0 ∧ σ 62914624 = some ⟨51, 4, [.agg [I 0, CL [], Str ⟨#[]⟩, RPL []]]⟩ ∧ σ 62914688 = some ⟨51, 4, [.agg [I 0, .v (.slice none 0 0), Str ByteArray.empty, .v (.slice none 0 0)]]⟩ ∧ σ 62914816 = some ⟨30, 5, []⟩ ∧ σ 62914720 = some ⟨51, 4, [.agg [I 0, .own 62914816 5 0 0, Str ⟨#[]⟩, .v (.slice none 0 0)]]⟩) 0 ?_ ?_
    · simp -implicitDefEqProofs (disch := omega) only [go_sem, e1, e2, e3, e4, e8, e9, s4, s8, g0, g1, q9, and_self]
    clear e1 e2 e3 e4 e8 e9 s4 s8 g0 g1 f0 q0 q1 q3 q4 q6 q7 q8 q9 E σ
    rintro n E σ ⟨hn, e1, e2, e3, e4, e8, e9, e10, e11, s4, s8, sC, s10⟩
    simp -implicitDefEqProofs (disch := omega) only [go_sem, hn, e1, e2, e3, e4, e8, e9, e10, e11, s4, s8, sC, s10]
    refine branch_r (by simp) ?_
    simp -implicitDefEqProofs (disch := omega) only [go_sem, hn, e1, e2, e3, e4, e8, e9, e10, e11, s4, s8, sC, s10]
    refine callC_at pk ?_
    simp -implicitDefEqProofs (disch := omega) only [go_sem, hn, e1, e2, e3, e4, e8, e9, e10, e11, s4, s8, sC, s10]
    refine branch_join (fun E σ => E 65 = B (decide (k = 0 ∨ k = 1)) ∧ E 51 = I k ∧ E 1 = I how ∧ E 2 = I x ∧ E 3 = I y ∧ E 4 = .ptr 62914624 4 0 0 ∧ E 8 = .ptr 62914688 4 0 0 ∧ E 9 = B false ∧ E 10 = .ptr 62914720 4 0 0 ∧ σ 62914624 = some ⟨51, 4, [.agg [I 0, CL [], Str ⟨#[]⟩, RPL []]]⟩ ∧ σ 62914688 = some ⟨51, 4, [.agg [I 0, .v (.slice none 0 0), Str ByteArray.empty, .v (.slice none 0 0)]]⟩ ∧ σ 62914816 = some ⟨30, 5, []⟩ ∧ σ 62914720 = some ⟨51, 4, [.agg [I 0, .own 62914816 5 0 0, Str ⟨#[]⟩, .v (.slice none 0 0)]]⟩) (fun h0 => ?_) (fun h0 => ?_) ?_
    · simp -implicitDefEqProofs (disch := omega) only [go_sem, hn, e1, e2, e3, e4, e8, e9, e10, e11, s4, s8, sC, s10, h0]
      try simp
    · simp -implicitDefEqProofs (disch := omega) only [go_sem, hn, e1, e2, e3, e4, e8, e9, e10, e11, s4, s8, sC, s10, h0]
      try (by_cases h1 : k = 1 <;> simp [h1])
    clear e1 e2 e3 e4 e8 e9 e10 e11 s4 s8 sC s10 E σ
    rintro E σ ⟨e65, e51, e1, e2, e3, e4, e8, e9, e10, s4, s8, sC, s10⟩
    simp -implicitDefEqProofs (disch := omega) only [go_sem, e65, e51, e1, e2, e3, e4, e8, e9, e10, s4, s8, sC, s10]
    refine branch_nq (fun E σ => E 4 = .ptr 62914624 4 0 0 ∧ E 8 = .ptr 62914688 4 0 0 ∧ E 9 = B false ∧ E 10 = .ptr 62914720 4 0 0 ∧ σ 62914624 = some ⟨51, 4, [.agg [I 0, CL [], Str ⟨#[]⟩, RPL []]]⟩ ∧ σ 62914688 = some ⟨51, 4, [.agg [I 0, .v (.slice none 0 0), Str ByteArray.empty, .v (.slice none 0 0)]]⟩ ∧ σ 62914816 = some ⟨30, 5, bl.map CH⟩ ∧ σ 62914720 = some ⟨51, 4, [.agg [I bh, .own 62914816 5 0 bl.length, Str bs, .v (.slice none 0 0)]]⟩ ∧ bp = [] ∧ bl.length ≤ 1) (fun h01 => ?_) (fun h01 => ?_) ?_
    · simp -implicitDefEqProofs (disch := omega) only [go_sem, e65, e51, e1, e2, e3, e4, e8, e9, e10, s4, s8, sC, s10]
      rw [if_pos h01] at hb
      cases hb
      refine branch_r (by simp) ?_
      simp -implicitDefEqProofs (disch := omega) only [go_sem, e65, e51, e1, e2, e3, e4, e8, e9, e10, s4, s8, sC, s10]
      refine callC_at px100 ?_
      simp -implicitDefEqProofs (disch := omega) only [go_sem, e65, e51, e1, e2, e3, e4, e8, e9, e10, s4, s8, sC, s10, and_self]
      try simp
    · simp -implicitDefEqProofs (disch := omega) only [go_sem, e65, e51, e1, e2, e3, e4, e8, e9, e10, s4, s8, sC, s10]
      rw [if_neg h01] at hb
      refine branch_mk (fun h2 => ?_) (fun h2 => ?_)
      · rw [if_pos h2] at hb
        cases hb
        simp -implicitDefEqProofs (disch := omega) only [go_sem, e65, e51, e1, e2, e3, e4, e8, e9, e10, s4, s8, sC, s10]
        refine callC_at (sumR_ev ⟨#[]⟩ (by decide)) ?_
        simp -implicitDefEqProofs (disch := omega) only [go_sem, e65, e51, e1, e2, e3, e4, e8, e9, e10, s4, s8, sC, s10, and_self]
        try simp
      rw [if_neg h2] at hb
      simp -implicitDefEqProofs (disch := omega) only [go_sem, e65, e51, e1, e2, e3, e4, e8, e9, e10, s4, s8, sC, s10, h2]
      refine branch_mk (fun h3 => ?_) (fun h3 => ?_)
      · rw [if_pos h3] at hb
        cases hb
        simp -implicitDefEqProofs (disch := omega) only [go_sem, e65, e51, e1, e2, e3, e4, e8, e9, e10, s4, s8, sC, s10, and_self]
        try simp
      rw [if_neg h3] at hb
      cases hb
      simp -implicitDefEqProofs (disch := omega) only [go_sem, e65, e51, e1, e2, e3, e4, e8, e9, e10, s4, s8, sC, s10, h2, h3]
      refine branch_mk (fun h4 => ?_) (fun h4 => ?_)
      · simp -implicitDefEqProofs (disch := omega) only [go_sem, e65, e51, e1, e2, e3, e4, e8, e9, e10, s4, s8, sC, s10, and_self]
        refine branch_r (by simp) ?_
        simp -implicitDefEqProofs (disch := omega) only [go_sem, e65, e51, e1, e2, e3, e4, e8, e9, e10, s4, s8, sC, s10, and_self]
        try simp
      simp -implicitDefEqProofs (disch := omega) only [go_sem, e65, e51, e1, e2, e3, e4, e8, e9, e10, s4, s8, sC, s10, h2, h3, h4]
      refine branch_mk (fun h5 => ?_) (fun h5 => ?_)
      · simp -implicitDefEqProofs (disch := omega) only [go_sem, e65, e51, e1, e2, e3, e4, e8, e9, e10, s4, s8, sC, s10, and_self]
        refine branch_r (by simp) ?_
        simp -implicitDefEqProofs (disch := omega) only [go_sem, e65, e51, e1, e2, e3, e4, e8, e9, e10, s4, s8, sC, s10, and_self]
        try simp
      simp -implicitDefEqProofs (disch := omega) only [go_sem, e65, e51, e1, e2, e3, e4, e8, e9, e10, s4, s8, sC, s10, h2, h3, h4, h5]
      refine branch_mk (fun h6 => ?_) (fun h6 => ?_)
      · simp -implicitDefEqProofs (disch := omega) only [go_sem, e65, e51, e1, e2, e3, e4, e8, e9, e10, s4, s8, sC, s10, and_self]
        refine branch_r (by simp) ?_
        simp -implicitDefEqProofs (disch := omega) only [go_sem, e65, e51, e1, e2, e3, e4, e8, e9, e10, s4, s8, sC, s10, and_self]
        try simp
      simp -implicitDefEqProofs (disch := omega) only [go_sem, e65, e51, e1, e2, e3, e4, e8, e9, e10, s4, s8, sC, s10, h2, h3, h4, h5, h6, and_self]
      refine branch_r (by simp) ?_
      simp -implicitDefEqProofs (disch := omega) only [go_sem, e65, e51, e1, e2, e3, e4, e8, e9, e10, s4, s8, sC, s10, h2, h3, h4, h5, h6, and_self]
      try simp
    · clear e1 e2 e3 s8 sC s10 e4 e8 e9 e10 s4 e65 e51 E σ
      rintro E σ ⟨e4, e8, e9, e10, s4, s8, sC, s10, hbp, hbl⟩
      simp -implicitDefEqProofs (disch := omega) only [go_sem, e4, e8, e9, e10, s4, s8, sC, s10]
      refine freeze_sem [62914816] ?_
      have hlt : bl.take bl.length = bl := List.take_length
      have a4 : frE (inI [62914816]) σ E 4 = .ptr 62914624 4 0 0 := by simp -implicitDefEqProofs (disch := omega) only [go_sem, e4]
      have a8 : frE (inI [62914816]) σ E 8 = .ptr 62914688 4 0 0 := by simp -implicitDefEqProofs (disch := omega) only [go_sem, e8]
      have a10 : frE (inI [62914816]) σ E 10 = .ptr 62914720 4 0 0 := by simp -implicitDefEqProofs (disch := omega) only [go_sem, e10]
      have b4 : frS (inI [62914816]) σ 62914624 = some ⟨51, 4, [.agg [I 0, CL [], Str ⟨#[]⟩, RPL []]]⟩ := by simp -implicitDefEqProofs (disch := omega) only [go_sem, s4]
      have b8 : frS (inI [62914816]) σ 62914688 = some ⟨51, 4, [.agg [I 0, .v (.slice none 0 0), Str ByteArray.empty, .v (.slice none 0 0)]]⟩ := by simp -implicitDefEqProofs (disch := omega) only [go_sem, s8]
      have b10 : frS (inI [62914816]) σ 62914720 = some ⟨51, 4, [.agg [I bh, CL bl, Str bs, .v (.slice none 0 0)]]⟩ := by simp -implicitDefEqProofs (disch := omega) only [go_sem, sC, s10, hlt]
      generalize frE (inI [62914816]) σ E = E' at *
      generalize frS (inI [62914816]) σ = σ' at *
      clear e4 e8 e9 e10 s4 s8 sC s10 E σ
      refine region_K (fun D E σ => E 4 = .ptr 62914624 4 0 0 ∧ E 8 = .ptr 62914688 4 0 0 ∧ E 10 = .ptr 62914720 4 0 0 ∧ σ 62914624 = some ⟨51, 4, [.agg [I 0, CL [], Str ⟨#[]⟩, RPL []]]⟩ ∧ σ 62914720 = some ⟨51, 4, [.agg [I bh, CL bl, Str bs, .v (.slice none 0 0)]]⟩ ∧ (D 5 = false → σ 62914688 = some ⟨51, 4, [.agg [I 0, .v (.slice none 0 0), Str ByteArray.empty, .v (.slice none 0 0)]]⟩) ∧ (D 5 = true → σ 62914688 = some ⟨51, 4, [.agg [I bh, CL bl, Str bs, .v (.slice none 0 0)]]⟩) ∧ (D 0 = true → E 172 = .agg [I bh, CL bl, Str bs, .v (.slice none 0 0)]) ∧ (D 1 = true → E 173 = .agg [I 0, CL [], Str ⟨#[]⟩, RPL []]) ∧ (D 2 = true → E 174 = .agg [I bh, CL bl, Str bs, .v (.slice none 0 0)]) ∧ (D 3 = true → E 175 = B (decide ((0 : Int) = bh ∧ (⟨#[]⟩ : ByteArray) = bs ∧ ([] : List Ch) = bl ∧ ([] : List Tot) = bp))) ∧ (D 4 = true → E 176 = B (!decide ((0 : Int) = bh ∧ (⟨#[]⟩ : ByteArray) = bs ∧ ([] : List Ch) = bl ∧ ([] : List Tot) = bp))) ∧ (D 6 = true → E 9 = B (!decide ((0 : Int) = bh ∧ (⟨#[]⟩ : ByteArray) = bs ∧ ([] : List Ch) = bl ∧ ([] : List Tot) = bp)))) ?_ ?_ ?_
      · simp -implicitDefEqProofs (disch := omega) only [go_sem, a4, a8, a10, b4, b8, b10, and_self]
        simp
      · simp only [stepsK, depK, Region.binds, eq_self, forall_const, and_true]
        repeat' apply And.intro
        all_goals
          rintro D E σ ⟨e4, e8, e10, s4, s10, m0_0, m0_1, j0, j1, j2, j3, j4, j6⟩ hd
          simp -implicitDefEqProofs (disch := first | assumption | (simp only [hd]; done) | omega) only [go_sem, e4, e8, e10, s4, s10, m0_0, m0_1, j0, j1, j2, j3, j4, j6, a4, a8, a10, b4, b8, b10, and_self]
          try (refine callC_at ((same_ev ⟨0, [], ⟨#[]⟩, []⟩ ⟨bh, bl, bs, bp⟩ (show ([] : List Ch).length ≤ _ by simp) (show bl.length ≤ _ by omega) (show ([] : List Tot).length ≤ _ by simp) (show bp.length ≤ _ by rw [hbp]; simp) (fun t ht => by cases ht) (fun t ht => by rw [hbp] at ht; cases ht)).asIf ⟨asIf_refl _, asIf_agg ⟨asIf_refl _, asIf_refl _, asIf_refl _, by rw [hbp]; exact asIf_nil 2, trivial⟩, trivial⟩) ?_; simp -implicitDefEqProofs (disch := first | assumption | (simp only [hd]; done) | omega) only [go_sem, e4, e8, e10, s4, s10, m0_0, m0_1, j0, j1, j2, j3, j4, j6, a4, a8, a10, b4, b8, b10, and_self])
          repeat' apply And.intro
          all_goals first | assumption | (intro _; assumption) | trivial | (simp -implicitDefEqProofs (contextual := true) (disch := first | assumption | omega) only [go_sem, m0_0, m0_1, j0, j1, j2, j3, j4, j6, hd, implies_true, forall_const, false_implies, true_implies]; done) | (intros; contradiction) | trace_state
      · rintro D E σ hD ⟨e4, e8, e10, s4, s10, m0_0, m0_1, j0, j1, j2, j3, j4, j6⟩
        have g0 := m0_1 (hD 5 (by decide))
        have q0 := j0 (hD 0 (by decide))
        have q1 := j1 (hD 1 (by decide))
        have q2 := j2 (hD 2 (by decide))
        have q3 := j3 (hD 3 (by decide))
        have q4 := j4 (hD 4 (by decide))
        have q6 := j6 (hD 6 (by decide))
        clear m0_0 m0_1 j0 j1 j2 j3 j4 j6 hD
        simp -implicitDefEqProofs (disch := omega) only [go_sem, e4, e8, e10, s4, s10, g0, q6, Tryd.results29]
end Go.Proofs.YtgbcfpcjljhijaaDoor
set_option maxRecDepth 100000
namespace Go.Proofs.YtgbcfpcjljhijaaDoor
open Go.Vai Go Go.Proofs
open Nat (reduceEqDiff reduceMul reduceAdd reduceDiv reduceLeDiff)
open Int (reduceToNat reduceNe reduceEq reduceLT reduceLE)
abbrev Led := ByteArray × List Ch
abbrev LPP (L : Led) : AV := LP L.1 L.2
def sealX (L : Led) : Tot × Int := if ledOK L.1 L.2 = true then (sealT L.1 L.2, 0) else (([], ⟨#[]⟩), 400)
def sumsX (l : List Ch) : List Int × Int := if chsOK l = true then (sumsF l, 0) else ([], 400)
def debX (l : List Ch) : List Deb × Int := if chsOK l = true then (debF l, 0) else ([], 400)
def accX (L : Led) (h : Int) : Acc × Int := if (ledOK L.1 L.2 && inF h 0 63) = true then (ownA L.1 L.2 h.toNat, 0) else (acc0, 400)
def bentX (L : Led) (h how x y : Int) : Acc := if (ledOK L.1 L.2 && inF h 0 63) = true then bentF (ownA L.1 L.2 h.toNat) how x y else bent0F how x
def SmT (t : Tot) : Prop := t.1.length ≤ 100 ∧ (∀ n ∈ t.1, R64 n) ∧ t.2.size ≤ 1000000
def SmA (a : Acc) : Prop := a.l.length ≤ 100 ∧ a.p.length ≤ 100 ∧ ∀ t ∈ a.p, t.1.length ≤ 100
theorem led_good {L : Led} (h : ledOK L.1 L.2 = true) : L.2.length ≤ 60 ∧ ∀ c ∈ L.2, c.good := by
  simp only [ledOK, Bool.and_eq_true] at h
  have h2 := chsOK_iff _ h.2
  refine ⟨h2.1, fun c hc => ?_⟩
  have h3 := h.2
  simp only [chsOK, Bool.and_eq_true, decide_eq_true_eq] at h3
  obtain ⟨i, hi, rfl⟩ := List.mem_iff_getElem.1 hc
  rw [← gd_get _ i hi]
  exact chOK_good (h3.2 i hi)
theorem acc_own {L : Led} {h : Int} (hh : (ledOK L.1 L.2 && inF h 0 63) = true) : ∃ n : Nat, h = n ∧ n < 64 ∧ ledOK L.1 L.2 = true := by
  simp only [Bool.and_eq_true, inF, decide_eq_true_eq] at hh
  exact ⟨h.toNat, by omega, by omega, hh.1⟩
section
variable (L : Led) (hL : L.2.length ≤ 100)
include hL
theorem sealX_ev : Ev Tryd.prog 15 [LPP L] (.tup [RP (sealX L).1, I (sealX L).2]) := by
  unfold sealX; split
  · exact sealOK_ev _ _ (by omega) (by assumption)
  · exact sealBad_ev _ _ (by omega) (Bool.eq_false_iff.2 (by assumption))
theorem sealXR_ev : Ev Tryd.prog 16 [LPP L] (.tup [RP (sealX L).1, I (sealX L).2]) := by
  unfold sealX; split
  · exact sealROK_ev _ _ (by omega) (by assumption)
  · exact sealRBad_ev _ _ (by omega) (Bool.eq_false_iff.2 (by assumption))
theorem sumsX_ev : Ev Tryd.prog 17 [CL L.2] (.tup [SL (sumsX L.2).1, I (sumsX L.2).2]) := by
  unfold sumsX; split
  · exact sumsOK_ev _ (by omega) (by assumption)
  · exact sumsBad_ev _ (by omega) (Bool.eq_false_iff.2 (by assumption))
theorem sumsXR_ev : Ev Tryd.prog 18 [CL L.2] (.tup [SL (sumsX L.2).1, I (sumsX L.2).2]) := by
  unfold sumsX; split
  · exact sumsROK_ev _ (by omega) (by assumption)
  · exact sumsRBad_ev _ (by omega) (Bool.eq_false_iff.2 (by assumption))
theorem debX_ev : Ev Tryd.prog 19 [CL L.2] (.tup [.sl 3 ((debX L.2).1.map DP), I (debX L.2).2]) := by
  unfold debX; split
  · exact debtsOK_ev _ (by assumption)
  · exact debtsBad_ev _ (by omega) (Bool.eq_false_iff.2 (by assumption))
theorem debXR_ev : Ev Tryd.prog 20 [CL L.2] (.tup [.sl 3 ((debX L.2).1.map DP), I (debX L.2).2]) := by
  unfold debX; split
  · exact debtsROK_ev _ (by assumption)
  · exact debtsRBad_ev _ (by omega) (Bool.eq_false_iff.2 (by assumption))
theorem accX_ev (h : Int) : Ev Tryd.prog 26 [LPP L, I h] (.tup [AP (accX L h).1, I (accX L h).2]) := by
  unfold accX; split
  · rename_i hh
    obtain ⟨n, rfl, hn, hk⟩ := acc_own hh
    exact accOK_ev _ _ n (by omega) hk hn
  · exact accBad_ev _ _ _ (by omega) (Bool.eq_false_iff.2 (by assumption))
theorem accXR_ev (h : Int) : Ev Tryd.prog 27 [LPP L, I h] (.tup [AP (accX L h).1, I (accX L h).2]) := by
  unfold accX; split
  · rename_i hh
    obtain ⟨n, rfl, hn, hk⟩ := acc_own hh
    exact accROK_ev _ _ n (by omega) hk hn
  · exact accRBad_ev _ _ _ (by omega) (Bool.eq_false_iff.2 (by assumption))
end
theorem bentX_ev (L : Led) (h how x y : Int) (hh : R64 how) (hx : R64 x) (hy : R64 y) : ∃ b, Ev Tryd.prog 29 [AP (accX L h).1, I how, I x, I y] (.tup [AP (bentX L h how x y), B b]) := by
  unfold accX bentX; split
  · rename_i hc
    obtain ⟨n, rfl, hn, hk⟩ := acc_own hc
    have hg := led_good hk
    exact ⟨_, bentA_ev (own_ok L.1 hg.2 hg.1 _ (by omega)) how x y hh hx hy⟩
  · exact ⟨_, bent0_ev how x y hh hx hy⟩
theorem sumsX_len (l : List Ch) : (sumsX l).1.length ≤ 8 := by
  unfold sumsX; split
  · exact Nat.le_of_eq (sumsF_len l)
  · exact Nat.zero_le _
theorem debX_len (l : List Ch) (h : l.length ≤ 100) : (debX l).1.length ≤ 100 := by
  unfold debX; split
  · have := debF_length l; show (debF l).length ≤ 100; omega
  · exact Nat.zero_le _
theorem sealX_sm (L : Led) : SmT (sealX L).1 := by
  unfold sealX; split
  · rename_i hh
    have hg := led_good hh
    have h8 := row_len8 L.1 hg.2 hg.1 (k := 6) (i := 0) (by omega) (by decide)
    have hs : (sealT L.1 L.2).1 = sumsF L.2 := seal_sums L.1 hg.2 hg.1
    refine ⟨?_, ?_, ?_⟩
    · show (sealT L.1 L.2).1.length ≤ _; rw [hs, sumsF_len]; omega
    · show ∀ n ∈ (sealT L.1 L.2).1, _; rw [hs]; exact sums_R64 hg.2 hg.1
    · have : (sealT L.1 L.2).2.size = 32 := h8.2
      show (sealT L.1 L.2).2.size ≤ _; omega
  · exact ⟨Nat.zero_le _, (fun _ h => by cases h), by decide⟩
theorem accX_sm (L : Led) (h : Int) : SmA (accX L h).1 := by
  unfold accX; split
  · rename_i hc
    obtain ⟨n, rfl, hn, hk⟩ := acc_own hc
    have hg := led_good hk
    obtain ⟨_, ⟨h2, _⟩, _, _, h6, h7⟩ := accOK_iff (own_ok L.1 hg.2 hg.1 n hn)
    exact ⟨Nat.le_trans h2 (by omega), Nat.le_trans (Nat.le_of_eq h6) (by omega), fun t ht => by have := (h7 t ht).1; omega⟩
  · exact ⟨Nat.zero_le _, Nat.zero_le _, fun _ h => by cases h⟩
theorem bentX_sm (L : Led) (h how x y : Int) : SmA (bentX L h how x y) := by
  unfold bentX; split
  · rename_i hc
    obtain ⟨n, rfl, hn, hk⟩ := acc_own hc
    have hg := led_good hk
    obtain ⟨_, ⟨h2, _⟩, _, _, h6, h7⟩ := accOK_iff (own_ok L.1 hg.2 hg.1 n hn)
    have := bentF_small (a := ownA L.1 L.2 n) how x y h2 h6 (fun t ht => (h7 t ht).1)
    exact ⟨this.1, Nat.le_trans this.2.1 (by omega), fun t ht => by have := this.2.2 t ht; omega⟩
  · have hz : ∀ n ∈ ([] : List Tot), n.1.length ≤ 100 := fun _ h => by cases h
    unfold bent0F acc0
    split
    · exact ⟨by show 1 ≤ 100; omega, Nat.zero_le _, hz⟩
    split
    · exact ⟨Nat.zero_le _, Nat.zero_le _, hz⟩
    split <;> exact ⟨Nat.zero_le _, Nat.zero_le _, hz⟩
section
variable (p : Nat → Bool) (l : List Led)
@[go_sem] theorem namesL_LPP : AV.namesL p (l.map LPP) = false := namesL_map p l LPP fun _ => rfl
@[go_sem] theorem allOK_LPP : allOK 2 (l.map LPP) = true := allOK_map 2 l LPP fun _ => ⟨rfl, rfl⟩
end
end Go.Proofs.YtgbcfpcjljhijaaDoor
set_option maxRecDepth 100000
namespace Go.Proofs.YtgbcfpcjljhijaaDoor
open Go.Vai Go Go.Proofs
open Nat (reduceEqDiff reduceMul reduceAdd reduceDiv reduceLeDiff)
open Int (reduceToNat reduceNe reduceEq reduceLT reduceLE)
set_option maxHeartbeats 4000000 in
theorem matches40_ev (key : Int) (x y : List Fiv) (how z w : Int) (odd : ByteArray) (cu : Int) (hk : R64 key) (hx : x.length ≤ 9223372036854775807) (hr : ∀ y ∈ x, y.r) (hy : y.length ≤ 9223372036854775807) (hyr : ∀ v ∈ y, v.r) (hhow : R64 how) (hz : R64 z) (hw : R64 w) (ho : odd.size ≤ 9223372036854775807) (hcu : R64 cu) :
    Ev Tryd.prog 3 [I key, FL x, FL y, I how, I z, I w, Str odd, I cu] (B true) := by
  have hm1 := made_ev key x hk hx hr
  have hm2 := made_ev key y hk hy hyr
  have hl1 := madeF_len x
  have hgd := madeF_good x
  have hl2 := madeF_len y
  generalize madeK key = K at *
  generalize madeF x = l at *
  generalize madeF y = m at *
  have p7 := pick_ev how 7 hhow (by omega)
  have p8 := pick_ev cu 8 hcu (by omega)
  have p8r := pickF_in (c := cu) (n := 8) (by omega)
  have w8e := pick_ev w 8 hw (by omega)
  have w8r := pickF_in (c := w) (n := 8) (by omega)
  generalize pickF how 7 = k7 at *
  generalize pickF cu 8 = c8 at *
  generalize pickF w 8 = w8_ at *
  obtain ⟨w8, rfl⟩ : ∃ q : Nat, w8_ = q := ⟨w8_.toNat, by omega⟩
  refine ev_ofB [7, 12, 13, 15, 39, 41] Tryd.func3 rfl (by kernel_rfl) mo (Nat.le_of_ble_eq_true rfl) ?_
  simp -implicitDefEqProofs (disch := omega) only [go_sem, Tryd.ntmps3]
  refine callC_at sane_ev ?_
  simp -implicitDefEqProofs (disch := omega) only [go_sem]
  refine callC_at hm1 ?_
  simp -implicitDefEqProofs (disch := omega) only [go_sem]
  refine callC_at hm2 ?_
  obtain ⟨o, ho⟩ : ∃ o : ByteArray, o = odd.extract 0 (min (odd.size : Int) 33).toNat := ⟨_, rfl⟩
  simp -implicitDefEqProofs (disch := omega) only [go_sem]
  refine region_K (fun D E σ => E 3 = I how ∧ E 4 = I z ∧ E 5 = I w ∧ E 7 = I cu ∧ E 17 = B true ∧ E 18 = .ptr 8388896 2 0 0 ∧ E 19 = .ptr 8388912 2 0 0 ∧ E 20 = .ptr 8388928 2 0 0 ∧ σ 8388896 = some ⟨26, 2, [LP K l]⟩ ∧ σ 8388912 = some ⟨26, 2, [LP K m]⟩ ∧ σ 8388928 = some ⟨26, 2, [LP o l]⟩ ∧ (D 8 = true → D 6 = true) ∧ (D 6 = true → D 5 = true) ∧ (D 5 = true → D 2 = true) ∧ (D 8 = true → D 7 = true) ∧ (D 2 = true → D 5 = false → σ 8389712 = some ⟨30, 5, []⟩) ∧ (D 2 = true → D 5 = false → E 69 = .own 8389712 5 0 0) ∧ (D 5 = true → σ 8389712 = some ⟨30, 5, l.map CH⟩) ∧ (D 5 = true → E 72 = .own 8389712 5 0 l.length) ∧ (D 7 = true → D 8 = false → σ 8388944 = some ⟨26, 2, [.agg [Str ByteArray.empty, .v (.slice none 0 0)]]⟩) ∧ (D 8 = true → σ 8388944 = some ⟨26, 2, [.agg [Str K, .own 8389712 5 0 l.length]]⟩) ∧ (D 0 = true → E 67 = .ptr 8388896 2 0 0) ∧ (D 1 = true → E 68 = Str K) ∧ (D 3 = true → E 70 = .ptr 8388896 2 0 1) ∧ (D 4 = true → E 71 = CL l) ∧ (D 6 = true → E 73 = .agg [Str K, .own 8389712 5 0 l.length]) ∧ (D 7 = true → E 21 = .ptr 8388944 2 0 0)) ?_ ?_ ?_
  · simp -implicitDefEqProofs (disch := omega) only [go_sem, ho.symm]
    simp
  · simp only [stepsK, depK, Region.binds, eq_self, forall_const, and_true]
    repeat' apply And.intro
    all_goals
      rintro D E σ ⟨e3, e4, e5, e7, e17, e18, e19, e20, s18, s19, s20, c8_6, c6_5, c5_2, c8_7, m0_0, n0_0, m0_1, n0_1, m1_0, m1_1, j0, j1, j3, j4, j6, j7⟩ hd
      have k := And.intro trivial <| And.intro (cK c8_6) <| And.intro (cK c6_5) <| And.intro (cK c5_2) <| And.intro (cK c8_7) trivial
      simp -implicitDefEqProofs (disch := first | assumption | (simp only [hd, k]; done) | omega) only [go_sem, e3, e4, e5, e7, e17, e18, e19, e20, s18, s19, s20, m0_0, n0_0, m0_1, n0_1, m1_0, m1_1, j0, j1, j3, j4, j6, j7, ho.symm]
      repeat' apply And.intro
      all_goals first | assumption | (intro _; assumption) | trivial | (simp -implicitDefEqProofs (contextual := true) (disch := first | assumption | omega) only [go_sem, m0_0, n0_0, m0_1, n0_1, m1_0, m1_1, j0, j1, j3, j4, j6, j7, hd, c8_6, c6_5, c5_2, c8_7, k, implies_true, forall_const, false_implies, true_implies]; done) | (intro h; intros; exfalso; simp (maxDischargeDepth := 9) [hd, k] at h; done) | (intros; contradiction) | trace_state
  · rintro D E σ hD ⟨e3, e4, e5, e7, e17, e18, e19, e20, s18, s19, s20, c8_6, c6_5, c5_2, c8_7, m0_0, n0_0, m0_1, n0_1, m1_0, m1_1, j0, j1, j3, j4, j6, j7⟩
    have g0 := m0_1 (hD 5 (by decide))
    have f0 := n0_1 (hD 5 (by decide))
    have g1 := m1_1 (hD 8 (by decide))
    have q0 := j0 (hD 0 (by decide))
    have q1 := j1 (hD 1 (by decide))
    have q3 := j3 (hD 3 (by decide))
    have q4 := j4 (hD 4 (by decide))
    have q6 := j6 (hD 6 (by decide))
    have q7 := j7 (hD 7 (by decide))
    clear c8_6 c6_5 c5_2 c8_7 m0_0 n0_0 m0_1 n0_1 m1_0 m1_1 j0 j1 j3 j4 j6 j7 hD
    simp -implicitDefEqProofs (disch := omega) only [go_sem, e3, e4, e5, e7, e17, e18, e19, e20, s18, s19, s20, g0, g1, q7]
    refine branch_join (fun E σ => E 3 = I how ∧ E 4 = I z ∧ E 5 = I w ∧ E 7 = I cu ∧ E 17 = B true ∧ E 18 = .ptr 8388896 2 0 0 ∧ E 19 = .ptr 8388912 2 0 0 ∧ E 20 = .ptr 8388928 2 0 0 ∧ σ 8388896 = some ⟨26, 2, [LP K l]⟩ ∧ σ 8388912 = some ⟨26, 2, [LP K m]⟩ ∧ σ 8388928 = some ⟨26, 2, [LP o l]⟩ ∧ E 21 = .ptr 8388944 2 0 0 ∧ σ 8388944 = some ⟨26, 2, [.agg [Str K, .own 8389712 5 0 l.length]]⟩ ∧ ∃ sp : List Ch, sp.length = l.length ∧ σ 8389712 = some ⟨30, 5, sp.map CH⟩) (fun h0 => ?_) (fun h0 => ?_) ?_
    · have pw := pick_ev w l.length hw (by omega)
      have pwr := pickF_in (c := w) (n := l.length) (by omega)
      generalize pickF w l.length = wl_ at *
      obtain ⟨wl, rfl⟩ : ∃ q : Nat, wl_ = q := ⟨wl_.toNat, by omega⟩
      have hbc := bentC_ev (gd l wl) how z hhow (by obtain ⟨_, _, _, _, _, _, _, _, h9⟩ := (hgd _ (gd_mem l wl (by omega))).1; omega)
      simp -implicitDefEqProofs (disch := omega) only [go_sem, e3, e4, e5, e7, e17, e18, e19, e20, s18, s19, s20, g0, g1, q7]
      refine callC_at pw ?_
      simp -implicitDefEqProofs (disch := omega) only [go_sem, e3, e4, e5, e7, e17, e18, e19, e20, s18, s19, s20, g0, g1, q7]
      refine callC_at hbc ?_
      simp -implicitDefEqProofs (disch := omega) only [go_sem, e3, e4, e5, e7, e17, e18, e19, e20, s18, s19, s20, g0, g1, q7, and_self]
      exact ⟨l.set wl (bentC (gd l wl) how z), by simp, by rw [List.map_set]⟩
    · simp -implicitDefEqProofs (disch := omega) only [go_sem, e3, e4, e5, e7, e17, e18, e19, e20, s18, s19, s20, g0, g1, q7, and_self]
      exact ⟨l, rfl, rfl⟩
    clear e3 e4 e5 e7 e17 e18 e19 e20 s18 s19 s20 g0 f0 g1 q0 q1 q3 q4 q6 q7 E σ
    rintro E σ ⟨e3, e4, e5, e7, e17, e18, e19, e20, s18, s19, s20, e21, s21, sp, hsp, s69⟩
    simp -implicitDefEqProofs (disch := omega) only [go_sem, e3, e4, e5, e7, e17, e18, e19, e20, s18, s19, s20, e21, s21, s69]
    refine loop_join 0 (fun E σ => ∃ b : List Ch, b.length ≤ 70 ∧ E 3 = I how ∧ E 4 = I z ∧ E 5 = I w ∧ E 7 = I cu ∧ E 17 = B true ∧ E 18 = .ptr 8388896 2 0 0 ∧ E 19 = .ptr 8388912 2 0 0 ∧ E 20 = .ptr 8388928 2 0 0 ∧ σ 8388896 = some ⟨26, 2, [LP K l]⟩ ∧ σ 8388912 = some ⟨26, 2, [LP K m]⟩ ∧ σ 8388928 = some ⟨26, 2, [LP o b]⟩ ∧ E 21 = .ptr 8388944 2 0 0 ∧ σ 8388944 = some ⟨26, 2, [.agg [Str K, .own 8389712 5 0 sp.length]]⟩ ∧ σ 8389712 = some ⟨30, 5, sp.map CH⟩) ?_ ?_
    · refine loopC_mk (fun n E σ => ∃ b : List Ch, n = 61 - b.length ∧ b.length ≤ 70 ∧ E 3 = I how ∧ E 4 = I z ∧ E 5 = I w ∧ E 7 = I cu ∧ E 17 = B true ∧ E 18 = .ptr 8388896 2 0 0 ∧ E 19 = .ptr 8388912 2 0 0 ∧ E 20 = .ptr 8388928 2 0 0 ∧ σ 8388896 = some ⟨26, 2, [LP K l]⟩ ∧ σ 8388912 = some ⟨26, 2, [LP K m]⟩ ∧ σ 8388928 = some ⟨26, 2, [LP o b]⟩ ∧ E 21 = .ptr 8388944 2 0 0 ∧ σ 8388944 = some ⟨26, 2, [.agg [Str K, .own 8389712 5 0 sp.length]]⟩ ∧ σ 8389712 = some ⟨30, 5, sp.map CH⟩) (61 - l.length) ⟨l, rfl, by omega, ?_⟩ ?_
      · simp -implicitDefEqProofs (disch := omega) only [go_sem, e3, e4, e5, e7, e17, e18, e19, e20, s18, s19, s20, e21, s21, s69, hsp, and_self]
      clear e3 e4 e5 e7 e17 e18 e19 e20 s18 s19 s20 e21 s21 s69 E σ
      rintro n E σ ⟨b, hn, hb, e3, e4, e5, e7, e17, e18, e19, e20, s18, s19, s20, e21, s21, s69⟩
      have hbl : (b ++ l).length = b.length + l.length := List.length_append
      have hap : b.map CH ++ l.map CH = (b ++ l).map CH := by rw [List.map_append]
      simp -implicitDefEqProofs (disch := omega) only [go_sem, e3, e4, e5, e7, e17, e18, e19, e20, s18, s19, s20, e21, s21, s69]
      refine branch_mk (fun hc => ?_) (fun hc => ?_)
      · simp -implicitDefEqProofs (disch := omega) only [go_sem, e3, e4, e5, e7, e17, e18, e19, e20, s18, s19, s20, e21, s21, s69]
        refine callC_at p7 ?_
        simp -implicitDefEqProofs (disch := omega) only [go_sem, e3, e4, e5, e7, e17, e18, e19, e20, s18, s19, s20, e21, s21, s69]
        refine branch_mk (fun h6 => ?_) (fun h6 => ?_)
        · simp -implicitDefEqProofs (disch := omega) only [go_sem, e3, e4, e5, e7, e17, e18, e19, e20, s18, s19, s20, e21, s21, s69]
          refine branch_mk (fun hl0 => ?_) (fun hl0 => ?_)
          · simp -implicitDefEqProofs (disch := omega) only [go_sem, e3, e4, e5, e7, e17, e18, e19, e20, s18, s19, s20, e21, s21, s69]
            refine freeze_post [8390368] ?_
            refine region_K (fun D E σ => E 3 = I how ∧ E 4 = I z ∧ E 5 = I w ∧ E 7 = I cu ∧ E 17 = B true ∧ E 18 = .ptr 8388896 2 0 0 ∧ E 19 = .ptr 8388912 2 0 0 ∧ E 20 = .ptr 8388928 2 0 0 ∧ σ 8388896 = some ⟨26, 2, [LP K l]⟩ ∧ σ 8388912 = some ⟨26, 2, [LP K m]⟩ ∧ E 21 = .ptr 8388944 2 0 0 ∧ σ 8388944 = some ⟨26, 2, [.agg [Str K, .own 8389712 5 0 sp.length]]⟩ ∧ σ 8389712 = some ⟨30, 5, sp.map CH⟩ ∧ (D 8 = true → D 6 = true) ∧ (D 6 = true → D 3 = true) ∧ (D 3 = true → D 0 = true) ∧ (D 3 = true → D 2 = true) ∧ (D 8 = true → D 2 = true) ∧ (D 0 = true → D 3 = false → σ 8390368 = some ⟨30, 5, []⟩) ∧ (D 0 = true → D 3 = false → E 110 = .own 8390368 5 0 0) ∧ (D 3 = true → D 6 = false → σ 8390368 = some ⟨30, 5, b.map CH⟩) ∧ (D 3 = true → D 6 = false → E 113 = .own 8390368 5 0 b.length) ∧ (D 6 = true → σ 8390368 = some ⟨30, 5, (b ++ l).map CH⟩) ∧ (D 6 = true → E 116 = .own 8390368 5 0 (b ++ l).length) ∧ (D 8 = false → σ 8388928 = some ⟨26, 2, [LP o b]⟩) ∧ (D 8 = true → σ 8388928 = some ⟨26, 2, [.agg [Str o, .own 8390368 5 0 (b ++ l).length]]⟩) ∧ (D 1 = true → E 111 = .ptr 8388928 2 0 1) ∧ (D 2 = true → E 112 = CL b) ∧ (D 4 = true → E 114 = .ptr 8388896 2 0 1) ∧ (D 5 = true → E 115 = CL l) ∧ (D 7 = true → E 117 = .ptr 8388928 2 0 1)) ?_ ?_ ?_
            · simp -implicitDefEqProofs (disch := omega) only [go_sem, hbl, hap]
              simp -implicitDefEqProofs (disch := omega) only [go_sem, e3, e4, e5, e7, e17, e18, e19, e20, s18, s19, e21, s21, s69, s20]
              try simp
            · simp only [stepsK, depK, Region.binds, eq_self, forall_const, and_true]
              repeat' apply And.intro
              all_goals
                rintro D E σ ⟨e3, e4, e5, e7, e17, e18, e19, e20, s18, s19, e21, s21, s69, c8_6, c6_3, c3_0, c3_2, c8_2, m0_0, n0_0, m0_1, n0_1, m0_2, n0_2, m1_0, m1_1, j1, j2, j4, j5, j7⟩ hd
                have k := And.intro trivial <| And.intro (cK c8_6) <| And.intro (cK c6_3) <| And.intro (cK c3_0) <| And.intro (cK c3_2) <| And.intro (cK c8_2) trivial
                simp -implicitDefEqProofs (disch := first | assumption | (simp only [hd, k]; done) | omega) only [go_sem, e3, e4, e5, e7, e17, e18, e19, e20, s18, s19, e21, s21, s69, m0_0, n0_0, m0_1, n0_1, m0_2, n0_2, m1_0, m1_1, j1, j2, j4, j5, j7, hbl, hap]
                repeat' apply And.intro
                all_goals first | assumption | (intro _; assumption) | trivial | (simp -implicitDefEqProofs (contextual := true) (disch := first | assumption | omega) only [go_sem, m0_0, n0_0, m0_1, n0_1, m0_2, n0_2, m1_0, m1_1, j1, j2, j4, j5, j7, hd, c8_6, c6_3, c3_0, c3_2, c8_2, k, implies_true, forall_const, false_implies, true_implies]; done) | (intro h; intros; exfalso; simp (maxDischargeDepth := 9) [hd, k] at h; done) | (intro _; exact c3_2 (c6_3 d6)) | (intro _; simp; done) | (intros; contradiction) | trace_state
            · rintro D E σ hD ⟨e3, e4, e5, e7, e17, e18, e19, e20, s18, s19, e21, s21, s69, c8_6, c6_3, c3_0, c3_2, c8_2, m0_0, n0_0, m0_1, n0_1, m0_2, n0_2, m1_0, m1_1, j1, j2, j4, j5, j7⟩
              have g0 := m0_2 (hD 6 (by decide))
              have f0 := n0_2 (hD 6 (by decide))
              have g1 := m1_1 (hD 8 (by decide))
              have q1 := j1 (hD 1 (by decide))
              have q2 := j2 (hD 2 (by decide))
              have q4 := j4 (hD 4 (by decide))
              have q5 := j5 (hD 5 (by decide))
              have q7 := j7 (hD 7 (by decide))
              clear c8_6 c6_3 c3_0 c3_2 c8_2 m0_0 n0_0 m0_1 n0_1 m0_2 n0_2 m1_0 m1_1 j1 j2 j4 j5 j7 hD
              simp -implicitDefEqProofs (disch := omega) only [go_sem, e3, e4, e5, e7, e17, e18, e19, e20, s18, s19, e21, s21, s69, g0, g1, hbl, hap]
              refine againQ_mk (61 - (b ++ l).length) (by rw [List.length_append]; omega) ⟨b ++ l, rfl, by rw [List.length_append]; omega, ?_⟩
              simp -implicitDefEqProofs (disch := omega) only [go_sem, e3, e4, e5, e7, e17, e18, e19, e20, s18, s19, e21, s21, s69, g0, g1, hbl, hap, and_self]
              try simp
          · simp -implicitDefEqProofs (disch := omega) only [go_sem, e3, e4, e5, e7, e17, e18, e19, e20, s18, s19, s20, e21, s21, s69]
            exact ⟨b, hb, by simp -implicitDefEqProofs (disch := omega) only [go_sem, e3, e4, e5, e7, e17, e18, e19, e20, s18, s19, s20, e21, s21, s69, and_self]⟩
        · simp -implicitDefEqProofs (disch := omega) only [go_sem, e3, e4, e5, e7, e17, e18, e19, e20, s18, s19, s20, e21, s21, s69]
          exact ⟨b, hb, by simp -implicitDefEqProofs (disch := omega) only [go_sem, e3, e4, e5, e7, e17, e18, e19, e20, s18, s19, s20, e21, s21, s69, and_self]⟩
      · simp -implicitDefEqProofs (disch := omega) only [go_sem, e3, e4, e5, e7, e17, e18, e19, e20, s18, s19, s20, e21, s21, s69]
        exact ⟨b, hb, by simp -implicitDefEqProofs (disch := omega) only [go_sem, e3, e4, e5, e7, e17, e18, e19, e20, s18, s19, s20, e21, s21, s69, and_self]⟩
    clear e3 e4 e5 e7 e17 e18 e19 e20 s18 s19 s20 e21 s21 s69 E σ
    rintro E σ ⟨b, hb, e3, e4, e5, e7, e17, e18, e19, e20, s18, s19, s20, e21, s21, s69⟩
    simp -implicitDefEqProofs (disch := omega) only [go_sem, e3, e4, e5, e7, e17, e18, e19, e20, s18, s19, s20, e21, s21, s69]
    refine freeze_reg Plain.mono [8389712] ?_
    have hspt : sp.take sp.length = sp := List.take_length
    simp -implicitDefEqProofs (disch := omega) only [go_sem, e3, e4, e5, e7, e17, e18, e19, e20, s18, s19, s20, e21, s21, s69, hspt]
    refine asif_C 8390512 (k := ⟨35, 2, [.agg [.v (.slice none 0 0), Str ⟨#[]⟩]]⟩) [RP ([], ⟨#[]⟩)] (by simp -implicitDefEqProofs (disch := omega) only [go_sem]; rfl) (by decide) ⟨⟨asR_nil 1, asR_refl _, trivial⟩, trivial⟩ ?_
    refine reg_mk Plain.mono ?_
    simp -implicitDefEqProofs (disch := omega) only [go_sem, e3, e4, e5, e7, e17, e18, e19, e20, s18, s19, s20, e21, s21, s69, hspt]
    obtain ⟨Ls, hLs⟩ : ∃ Ls : List Led, Ls = [(K, l), (K, m), (o, b), (K, sp)] := ⟨_, rfl⟩
    have hL4 : Ls.length = 4 := by rw [hLs]; rfl
    have hLm : [LP K l, LP K m, LP o b, LP K sp] = Ls.map LPP := by rw [hLs]; rfl
    have hLb : ∀ L ∈ Ls, L.2.length ≤ 100 := by
      rw [hLs]; intro L hL
      simp only [List.mem_cons, List.not_mem_nil, or_false] at hL
      rcases hL with r | r | r | r <;> subst r <;> simp only <;> omega
    refine loopC_mk (fun n E σ => ∃ (v : Nat) (as' : List Acc) (ss : List Tot), v + n = 4 ∧ as'.length = 4 * v ∧ ss.length = v + 1 ∧ (∀ a ∈ as', SmA a) ∧ (∀ t ∈ ss, SmT t) ∧ E 3 = I how ∧ E 4 = I z ∧ E 5 = I w ∧ E 7 = I cu ∧ E 17 = B true ∧ E 23 = .own 8388976 4 0 as'.length ∧ E 24 = .own 8390512 2 0 ss.length ∧ E 124 = .own 8390592 2 0 4 ∧ E 125 = I (4 : Nat) ∧ σ 8388976 = some ⟨51, 4, as'.map AP⟩ ∧ σ 8390512 = some ⟨35, 2, ss.map RP⟩ ∧ σ 8390592 = some ⟨26, 2, Ls.map LPP⟩ ∧ E 126 = I v) 4 ⟨0, [], [([], ⟨#[]⟩)], rfl, rfl, rfl, (fun _ h => by cases h), (fun t ht => by rw [List.mem_singleton] at ht; subst ht; exact ⟨Nat.zero_le _, (fun _ h => by cases h), by decide⟩), ?_⟩ ?_
    · simp -implicitDefEqProofs (disch := omega) only [go_sem, e3, e4, e5, e7, e17, e18, e19, e20, s18, s19, s20, e21, s21, s69, hspt, and_self]
      rw [← hLm]
      simp -implicitDefEqProofs (disch := omega) only [go_sem, e3, e4, e5, e7, e17, e18, e19, e20, s18, s19, s20, e21, s21, s69, hspt, and_self]
      try simp
    clear e3 e4 e5 e7 e17 e18 e19 e20 s18 s19 s20 e21 s21 s69 E σ
    rintro n E σ ⟨v, as', ss, hv, hal, hsl, hA, hS, e3, e4, e5, e7, e17, e23, e24, e124, e125, s23, s119, s124, e126⟩
    simp -implicitDefEqProofs (disch := omega) only [go_sem, e3, e4, e5, e7, e17, e23, e24, e124, e125, s23, s119, s124, e126]
    refine branch_mk (fun hc => ?_) (fun hc => ?_)
    · have hv4 : v < 4 := by omega
      simp -implicitDefEqProofs (disch := omega) only [go_sem, e3, e4, e5, e7, e17, e23, e24, e124, e125, s23, s119, s124, e126]
      have hLv := hLb _ (gd_mem Ls v (by omega))
      generalize gd Ls v = L at *
      refine callC_at (sealX_ev L hLv) ?_
      simp -implicitDefEqProofs (disch := omega) only [go_sem, e3, e4, e5, e7, e17, e23, e24, e124, e125, s23, s119, s124, e126]
      refine callC_at (sealXR_ev L hLv) ?_
      simp -implicitDefEqProofs (disch := omega) only [go_sem, e3, e4, e5, e7, e17, e23, e24, e124, e125, s23, s119, s124, e126]
      refine callC_at (sumsX_ev L hLv) ?_
      simp -implicitDefEqProofs (disch := omega) only [go_sem, e3, e4, e5, e7, e17, e23, e24, e124, e125, s23, s119, s124, e126]
      refine callC_at (sumsXR_ev L hLv) ?_
      simp -implicitDefEqProofs (disch := omega) only [go_sem, e3, e4, e5, e7, e17, e23, e24, e124, e125, s23, s119, s124, e126]
      refine callC_at (debX_ev L hLv) ?_
      simp -implicitDefEqProofs (disch := omega) only [go_sem, e3, e4, e5, e7, e17, e23, e24, e124, e125, s23, s119, s124, e126]
      refine callC_at (debXR_ev L hLv) ?_
      simp -implicitDefEqProofs (disch := omega) only [go_sem, e3, e4, e5, e7, e17, e23, e24, e124, e125, s23, s119, s124, e126]
      refine callC_at (valid_ev L.1 L.2 (by omega)) ?_
      simp -implicitDefEqProofs (disch := omega) only [go_sem, e3, e4, e5, e7, e17, e23, e24, e124, e125, s23, s119, s124, e126]
      refine callC_at (validR_ev L.1 L.2 (by omega)) ?_
      have hst := sealX_sm L
      have hsl2 := sumsX_len L.2
      have hdl := debX_len L.2 hLv
      simp -implicitDefEqProofs (disch := omega) only [go_sem, e3, e4, e5, e7, e17, e23, e24, e124, e125, s23, s119, s124, e126]
      refine callC_at (sameTotal_ev (sealX L).1 (sealX L).1 (by have := hst.1; omega) (by have := hst.1; omega)) ?_
      simp -implicitDefEqProofs (disch := omega) only [go_sem, e3, e4, e5, e7, e17, e23, e24, e124, e125, s23, s119, s124, e126]
      refine callC_at (intsR_ev (sumsX L.2).1 (sumsX L.2).1 (by omega) (by omega)) ?_
      simp -implicitDefEqProofs (disch := omega) only [go_sem, e3, e4, e5, e7, e17, e23, e24, e124, e125, s23, s119, s124, e126]
      refine callC_at (sameDebts_ev (debX L.2).1 (debX L.2).1 (by omega) (by omega)) ?_
      simp -implicitDefEqProofs (disch := omega) only [go_sem, e3, e4, e5, e7, e17, e23, e24, e124, e125, s23, s119, s124, e126]
      refine callC_at p8 ?_
      simp -implicitDefEqProofs (disch := omega) only [go_sem, e3, e4, e5, e7, e17, e23, e24, e124, e125, s23, s119, s124, e126]
      obtain ⟨s2, hs2⟩ : ∃ s2, s2 = ss ++ [(sealX L).1] := ⟨_, rfl⟩
      have hs2l : s2.length = v + 2 := by rw [hs2]; simp [hsl]
      have hs2m : ss.map RP ++ [RP (sealX L).1] = s2.map RP := by rw [hs2, List.map_append]; rfl
      have hS2 : ∀ t ∈ s2, SmT t := fun t ht => by
        rw [hs2, List.mem_append, List.mem_singleton] at ht
        rcases ht with h | h
        · exact hS t h
        · subst h; exact hst
      obtain ⟨cs, hcs⟩ : ∃ cs : List Int, cs = [cu, c8] := ⟨_, rfl⟩
      have hcl : cs.length = 2 := by rw [hcs]; rfl
      have hcm : [I cu, I c8] = cs.map I := by rw [hcs]; rfl
      have hcr : ∀ c ∈ cs, R64 c := by rw [hcs]; intro c hc; simp only [List.mem_cons, List.not_mem_nil, or_false] at hc; rcases hc with r | r <;> subst r <;> first | assumption | (unfold R64; omega)
      refine loopC_mk (fun n E σ => ∃ (u : Nat) (as' : List Acc), u + n = 2 ∧ as'.length = 4 * v + 2 * u ∧ (∀ a ∈ as', SmA a) ∧ E 3 = I how ∧ E 4 = I z ∧ E 5 = I w ∧ E 7 = I cu ∧ E 17 = B true ∧ E 23 = .own 8388976 4 0 as'.length ∧ E 24 = .own 8390512 2 0 s2.length ∧ E 124 = .own 8390592 2 0 4 ∧ E 125 = I (4 : Nat) ∧ σ 8388976 = some ⟨51, 4, as'.map AP⟩ ∧ σ 8390512 = some ⟨35, 2, s2.map RP⟩ ∧ σ 8390592 = some ⟨26, 2, Ls.map LPP⟩ ∧ E 126 = I v ∧ E 26 = .ptr 8389024 2 0 0 ∧ σ 8389024 = some ⟨26, 2, [LPP L]⟩ ∧ E 209 = .own 8391952 1 0 2 ∧ E 210 = I (2 : Nat) ∧ E 211 = I u ∧ σ 8391952 = some ⟨3, 1, cs.map I⟩) 2 ⟨0, as', rfl, by omega, hA, ?_⟩ ?_
      · rw [← hcm, ← hs2m]
        simp -implicitDefEqProofs (disch := omega) only [go_sem, e3, e4, e5, e7, e17, e23, e24, e124, e125, s23, s119, s124, e126, hs2l, hsl, and_self]
        try simp
      clear e3 e4 e5 e7 e17 e23 e24 e124 e125 s23 s119 s124 e126 hsl hal hA hS E σ
      rintro k E σ ⟨u, as', hu, hal, hA, e3, e4, e5, e7, e17, e23, e24, e124, e125, s23, s119, s124, e126, e26, s26, e209, e210, e211, s209⟩
      simp -implicitDefEqProofs (disch := omega) only [go_sem, e3, e4, e5, e7, e17, e23, e24, e124, e125, s23, s119, s124, e126, e26, s26, e209, e210, e211, s209]
      refine branch_mk (fun hd => ?_) (fun hd => ?_)
      · have hcu := hcr _ (gd_mem cs u (by omega))
        simp -implicitDefEqProofs (disch := omega) only [go_sem, e3, e4, e5, e7, e17, e23, e24, e124, e125, s23, s119, s124, e126, e26, s26, e209, e210, e211, s209]
        generalize gd cs u = c at *
        have ha := accX_sm L c
        refine callC_at (accX_ev L hLv c) ?_
        simp -implicitDefEqProofs (disch := omega) only [go_sem, e3, e4, e5, e7, e17, e23, e24, e124, e125, s23, s119, s124, e126, e26, s26, e209, e210, e211, s209]
        refine callC_at (accXR_ev L hLv c) ?_
        simp -implicitDefEqProofs (disch := omega) only [go_sem, e3, e4, e5, e7, e17, e23, e24, e124, e125, s23, s119, s124, e126, e26, s26, e209, e210, e211, s209]
        refine callC_at (same_ev (accX L c).1 (accX L c).1 (by have := ha.1; omega) (by have := ha.1; omega) (by have := ha.2.1; omega) (by have := ha.2.1; omega) (fun t ht => by have := ha.2.2 t ht; omega) (fun t ht => by have := ha.2.2 t ht; omega)) ?_
        simp -implicitDefEqProofs (disch := omega) only [go_sem, e3, e4, e5, e7, e17, e23, e24, e124, e125, s23, s119, s124, e126, e26, s26, e209, e210, e211, s209]
        obtain ⟨bb, hbe⟩ := bentX_ev L c how z w hhow hz hw
        refine callC_at hbe ?_
        have hb := bentX_sm L c how z w
        generalize (accX L c).1 = a1 at *
        generalize bentX L c how z w = a2 at *
        have hap2 : as'.map AP ++ [AP a1, AP a2] = (as' ++ [a1, a2]).map AP := by simp
        simp -implicitDefEqProofs (disch := omega) only [go_sem, e3, e4, e5, e7, e17, e23, e24, e124, e125, s23, s119, s124, e126, e26, s26, e209, e210, e211, s209, List.take_length, hap2]
        refine againQ_mk (k - 1) (by omega) ⟨u + 1, as' ++ [a1, a2], by omega, by simp; omega, fun a h => ?_, ?_⟩
        · simp only [List.mem_append, List.mem_cons, List.not_mem_nil, or_false] at h
          rcases h with h | h | h
          · exact hA a h
          · subst h; exact ha
          · subst h; exact hb
        simp -implicitDefEqProofs (disch := omega) only [go_sem, e3, e4, e5, e7, e17, e23, e24, e124, e125, s23, s119, s124, e126, e26, s26, e209, e210, e211, s209, List.take_length, hap2, and_self]
        simp
      · obtain rfl : u = 2 := by omega
        simp -implicitDefEqProofs (disch := omega) only [go_sem, e3, e4, e5, e7, e17, e23, e24, e124, e125, s23, s119, s124, e126, e26, s26, e209, e210, e211, s209]
        refine againQ_mk (n - 1) (by omega) ⟨v + 1, as', s2, by omega, by omega, by omega, hA, hS2, ?_⟩
        simp -implicitDefEqProofs (disch := omega) only [go_sem, e3, e4, e5, e7, e17, e23, e24, e124, e125, s23, s119, s124, e126, e26, s26, e209, e210, e211, s209, and_self]
        try simp
    · obtain rfl : v = 4 := by omega
      have h1S := hS _ (gd_mem ss 1 (by omega))
      have ha16 : as'.length ≤ 16 := by omega
      clear hal
      simp -implicitDefEqProofs (disch := omega) only [go_sem, e3, e4, e5, e7, e17, e23, e24, e124, e125, s23, s119, s124, e126]
      refine branch_join (fun E σ => ∃ s3 : List Tot, s3.length ≤ 6 ∧ (∀ t ∈ s3, SmT t) ∧ E 17 = B true ∧ E 23 = .own 8388976 4 0 as'.length ∧ E 24 = .own 8390512 2 0 s3.length ∧ σ 8388976 = some ⟨51, 4, as'.map AP⟩ ∧ σ 8390512 = some ⟨35, 2, s3.map RP⟩) (fun h8 => ?_) (fun h8 => ?_) ?_
      · have h8' : (gd ss 1).1.length = 8 := by omega
        have hT8 : (gd ss 1).1.take 8 = (gd ss 1).1 := List.take_of_length_le (by omega)
        simp -implicitDefEqProofs (disch := omega) only [go_sem, e3, e4, e5, e7, e17, e23, e24, e124, e125, s23, s119, s124, e126]
        refine region_K (fun D E σ => E 4 = I z ∧ E 5 = I w ∧ E 17 = B true ∧ E 23 = .own 8388976 4 0 as'.length ∧ E 24 = .own 8390512 2 0 ss.length ∧ σ 8388976 = some ⟨51, 4, as'.map AP⟩ ∧ σ 8390512 = some ⟨35, 2, ss.map RP⟩ ∧ (D 12 = true → D 10 = true) ∧ (D 10 = true → D 5 = true) ∧ (D 5 = true → D 0 = true) ∧ (D 12 = true → D 11 = true) ∧ (D 0 = true → D 5 = false → σ 8392720 = some ⟨3, 1, []⟩) ∧ (D 0 = true → D 5 = false → E 257 = .own 8392720 1 0 0) ∧ (D 5 = true → σ 8392720 = some ⟨3, 1, (gd ss 1).1.map I⟩) ∧ (D 5 = true → E 262 = .own 8392720 1 0 8) ∧ (D 11 = true → D 12 = false → σ 8389360 = some ⟨35, 2, [.agg [.v (.slice none 0 0), Str ByteArray.empty]]⟩) ∧ (D 12 = true → σ 8389360 = some ⟨35, 2, [.agg [.own 8392720 1 0 8, Str (gd ss 1).2]]⟩) ∧ (D 1 = true → E 258 = .own 8390512 2 0 ss.length) ∧ (D 2 = true → E 259 = .ptr 8390512 2 1 0) ∧ (D 3 = true → E 260 = .ptr 8390512 2 1 0) ∧ (D 4 = true → E 261 = SL (gd ss 1).1) ∧ (D 6 = true → E 263 = .own 8390512 2 0 ss.length) ∧ (D 7 = true → E 264 = .ptr 8390512 2 1 0) ∧ (D 8 = true → E 265 = .ptr 8390512 2 1 1) ∧ (D 9 = true → E 266 = Str (gd ss 1).2) ∧ (D 10 = true → E 267 = .agg [.own 8392720 1 0 8, Str (gd ss 1).2]) ∧ (D 11 = true → E 47 = .ptr 8389360 2 0 0)) ?_ ?_ ?_
        · simp -implicitDefEqProofs (disch := omega) only [go_sem, h8', hT8]
          simp -implicitDefEqProofs (disch := omega) only [go_sem, e4, e5, e17, e23, e24, s23, s119]
          try simp
        · simp only [stepsK, depK, Region.binds, eq_self, forall_const, and_true]
          repeat' apply And.intro
          all_goals
            rintro D E σ ⟨e4, e5, e17, e23, e24, s23, s119, c12_10, c10_5, c5_0, c12_11, m0_0, n0_0, m0_1, n0_1, m1_0, m1_1, j1, j2, j3, j4, j6, j7, j8, j9, j10, j11⟩ hd
            have k := And.intro trivial <| And.intro (cK c12_10) <| And.intro (cK c10_5) <| And.intro (cK c5_0) <| And.intro (cK c12_11) trivial
            simp -implicitDefEqProofs (disch := first | assumption | (simp only [hd, k]; done) | omega) only [go_sem, e4, e5, e17, e23, e24, s23, s119, m0_0, n0_0, m0_1, n0_1, m1_0, m1_1, j1, j2, j3, j4, j6, j7, j8, j9, j10, j11, h8', hT8]
            repeat' apply And.intro
            all_goals first | assumption | (intro _; assumption) | trivial | (simp -implicitDefEqProofs (contextual := true) (disch := first | assumption | omega) only [go_sem, m0_0, n0_0, m0_1, n0_1, m1_0, m1_1, j1, j2, j3, j4, j6, j7, j8, j9, j10, j11, hd, c12_10, c10_5, c5_0, c12_11, k, implies_true, forall_const, false_implies, true_implies]; done) | (intro h; intros; exfalso; simp (maxDischargeDepth := 9) [hd, k] at h; done) | (intros; contradiction) | trace_state
        · rintro D E σ hD ⟨e4, e5, e17, e23, e24, s23, s119, c12_10, c10_5, c5_0, c12_11, m0_0, n0_0, m0_1, n0_1, m1_0, m1_1, j1, j2, j3, j4, j6, j7, j8, j9, j10, j11⟩
          have g0 := m0_1 (hD 5 (by decide))
          have f0 := n0_1 (hD 5 (by decide))
          have g1 := m1_1 (hD 12 (by decide))
          have q1 := j1 (hD 1 (by decide))
          have q2 := j2 (hD 2 (by decide))
          have q3 := j3 (hD 3 (by decide))
          have q4 := j4 (hD 4 (by decide))
          have q6 := j6 (hD 6 (by decide))
          have q7 := j7 (hD 7 (by decide))
          have q8 := j8 (hD 8 (by decide))
          have q9 := j9 (hD 9 (by decide))
          have q10 := j10 (hD 10 (by decide))
          have q11 := j11 (hD 11 (by decide))
          clear c12_10 c10_5 c5_0 c12_11 m0_0 n0_0 m0_1 n0_1 m1_0 m1_1 j1 j2 j3 j4 j6 j7 j8 j9 j10 j11 hD
          simp -implicitDefEqProofs (disch := omega) only [go_sem, e4, e5, e17, e23, e24, s23, s119, g0, g1, q11, h8', hT8]
          refine callC_at w8e ?_
          simp -implicitDefEqProofs (disch := omega) only [go_sem, e4, e5, e17, e23, e24, s23, s119, g0, g1, q11, h8', hT8]
          refine freeze_reg Plain.mono [8392720] ?_
          have hL8 : ((gd ss 1).1.set w8 z).length = 8 := by rw [List.length_set]; exact h8'
          have hL8t : ((gd ss 1).1.set w8 z).take 8 = (gd ss 1).1.set w8 z := List.take_of_length_le (by omega)
          obtain ⟨s3, hs3⟩ : ∃ s3, s3 = ss ++ [((gd ss 1).1.set w8 z, (gd ss 1).2)] := ⟨_, rfl⟩
          have hs3m : ss.map RP ++ [RP ((gd ss 1).1.set w8 z, (gd ss 1).2)] = s3.map RP := by rw [hs3, List.map_append]; rfl
          have hs3l : s3.length = ss.length + 1 := by rw [hs3]; simp
          have hse : ((gd ss 1).1.map I).set w8 (I z) = ((gd ss 1).1.set w8 z).map I := by rw [List.map_set]
          simp -implicitDefEqProofs (disch := omega) only [go_sem, e4, e5, e17, e23, e24, s23, s119, g0, g1, q11, h8', hT8, hL8, hL8t, hse, hs3m, List.take_length]
          refine ⟨s3, by omega, fun t ht => ?_, by simp -implicitDefEqProofs (disch := omega) only [go_sem, e4, e5, e17, e23, e24, s23, s119, g0, g1, hs3l, and_self]; try simp⟩
          rw [hs3, List.mem_append, List.mem_singleton] at ht
          rcases ht with h | h
          · exact hS t h
          · subst h
            refine ⟨by simp [h8'], fun n hn => ?_, h1S.2.2⟩
            rcases List.mem_or_eq_of_mem_set hn with h | h
            · exact h1S.2.1 n h
            · rw [h]; exact hz
      · simp -implicitDefEqProofs (disch := omega) only [go_sem, e3, e4, e5, e7, e17, e23, e24, e124, e125, s23, s119, s124, e126]
        exact ⟨ss, by omega, hS, by simp -implicitDefEqProofs (disch := omega) only [go_sem, e3, e4, e5, e7, e17, e23, e24, e124, e125, s23, s119, s124, and_self]⟩
      clear e3 e4 e5 e7 e17 e23 e24 e124 e125 s23 s119 s124 e126 hsl hS h1S E σ
      rintro E σ ⟨s3, hs3, hS, e17, e23, e24, s23, s119⟩
      simp -implicitDefEqProofs (disch := omega) only [go_sem, e17, e23, e24, s23, s119]
      refine loopC_mk (fun n E σ => ∃ i : Nat, i + n = as'.length ∧ E 17 = B true ∧ E 23 = .own 8388976 4 0 as'.length ∧ E 24 = .own 8390512 2 0 s3.length ∧ σ 8388976 = some ⟨51, 4, as'.map AP⟩ ∧ σ 8390512 = some ⟨35, 2, s3.map RP⟩ ∧ E 48 = I i) as'.length ⟨0, by omega, ?_⟩ ?_
      · simp -implicitDefEqProofs (disch := omega) only [go_sem, e17, e23, e24, s23, s119, and_self]
        try simp
      clear e17 e23 e24 s23 s119 E σ
      rintro n E σ ⟨i, hi, e17, e23, e24, s23, s119, e48⟩
      simp -implicitDefEqProofs (disch := omega) only [go_sem, e17, e23, e24, s23, s119, e48]
      refine branch_mk (fun hc => ?_) (fun hc => ?_)
      · have hai := hA _ (gd_mem as' i (by omega))
        simp -implicitDefEqProofs (disch := omega) only [go_sem, e17, e23, e24, s23, s119, e48]
        refine loopC_mk (fun n E σ => ∃ k : Nat, k + n = s3.length ∧ E 17 = B true ∧ E 23 = .own 8388976 4 0 as'.length ∧ E 24 = .own 8390512 2 0 s3.length ∧ σ 8388976 = some ⟨51, 4, as'.map AP⟩ ∧ σ 8390512 = some ⟨35, 2, s3.map RP⟩ ∧ E 48 = I i ∧ E 49 = I k) s3.length ⟨0, by omega, ?_⟩ ?_
        · simp -implicitDefEqProofs (disch := omega) only [go_sem, e17, e23, e24, s23, s119, e48, and_self]
          try simp
        clear e17 e23 e24 s23 s119 e48 E σ
        rintro m E σ ⟨k, hk, e17, e23, e24, s23, s119, e48, e49⟩
        simp -implicitDefEqProofs (disch := omega) only [go_sem, e17, e23, e24, s23, s119, e48, e49]
        refine branch_mk (fun hc => ?_) (fun hc => ?_)
        · have hsk := hS _ (gd_mem s3 k (by omega))
          have c1 := check_ev (gd s3 k) (gd as' i) (by have := hai.1; omega) (by have := hai.2.1; omega) (by have := hsk.1; omega) hsk.2.1 hsk.2.2
          have c2 := checkR_ev (gd s3 k) (gd as' i) (by have := hai.1; omega) (by have := hai.2.1; omega) (fun t ht => by have := hai.2.2 t ht; omega) (by have := hsk.1; omega)
          simp -implicitDefEqProofs (disch := omega) only [go_sem, e17, e23, e24, s23, s119, e48, e49]
          refine callC_at c1 ?_
          simp -implicitDefEqProofs (disch := omega) only [go_sem, e17, e23, e24, s23, s119, e48, e49]
          refine callC_at c2 ?_
          simp -implicitDefEqProofs (disch := omega) only [go_sem, e17, e23, e24, s23, s119, e48, e49]
          refine againQ_mk (m - 1) (by omega) ⟨k + 1, by omega, ?_⟩
          simp -implicitDefEqProofs (disch := omega) only [go_sem, e17, e23, e24, s23, s119, e48, e49, and_self]
          try simp
        · simp -implicitDefEqProofs (disch := omega) only [go_sem, e17, e23, e24, s23, s119, e48, e49]
          refine againQ_mk (n - 1) (by omega) ⟨i + 1, by omega, ?_⟩
          simp -implicitDefEqProofs (disch := omega) only [go_sem, e17, e23, e24, s23, s119, e48, e49, and_self]
          try simp
      · simp -implicitDefEqProofs (disch := omega) only [go_sem, e17, e23, e24, s23, s119, e48, Tryd.results3]
        done
end Go.Proofs.YtgbcfpcjljhijaaDoor
set_option maxRecDepth 100000
namespace Go.Proofs.YtgbcfpcjljhijaaDoor
open Go.Vai Go Go.Proofs
open Nat (reduceEqDiff reduceMul reduceAdd reduceDiv reduceLeDiff)
open Int (reduceToNat reduceNe reduceEq reduceLT reduceLE)
def OSt (a : AV) : Prop := ∃ s : ByteArray, s.size ≤ 9223372036854775807 ∧ a = Str s
theorem o_str {H : Type} {enc : TypeId × Value → H} {w : World} : Opens Tryd.prog enc w 9 OSt :=
  (opens_string (by kernel_rfl)).mono (fun a ⟨s, h, e⟩ => ⟨s, h, e⟩) fun a ⟨s, h, e⟩ => ⟨s, h, e⟩
end Go.Proofs.YtgbcfpcjljhijaaDoor
set_option maxRecDepth 100000
namespace Go.Proofs.YtgbcfpcjljhijaaDoor
open Go.Vai Go Go.Proofs
open Nat (reduceEqDiff reduceMul reduceAdd reduceDiv reduceLeDiff)
open Int (reduceToNat reduceNe reduceEq reduceLT reduceLE)
theorem auditMatchesReference_lifted (os : Os) (started : os.Started) (H : Type) (enc : TypeId × Value → H) :
    ReturnsInHanded {} Tryd.checked os 3 .any (fun w args => (Rows.auditMatchesReferenceSpec.pre enc Tryd.prog Tryd.f3 [] false w args ∧ laidMetH Tryd.prog laid3 w) ∧ sizedMet enc Tryd.prog Tryd.f3 (OpenSpec.ofChange Rows.auditMatchesReferenceSpec) false w args)
      (Rows.auditMatchesReferenceSpec.post enc Tryd.prog Tryd.f3 false true false false) :=
  liftedG (C := Tryd.checked) (tb := 4) (ps := [OI, OFL, OFL, OI, OI, OI, OSt, OI]) (X := fun w _ => laidMetH Tryd.prog laid3 w) (fun _ _ _ hh h => h.of_heap hh) own3 started (by kernel_rfl) Tryd.func3
    (ChangeSpec.witness_shaped (enc := enc) (C := Tryd.checked) (os := os) (X := fun w _ => laidMetH Tryd.prog laid3 w) false (World.doorLaid Tryd.prog 14 os) #[.int .i64 0, .slice none 0 0, .slice none 0 0, .int .i64 0, .int .i64 0, .int .i64 0, .string ByteArray.empty, .int .i64 0] 8 rfl (World.shaped_of_RefB (by kernel_rfl) (by kernel_rfl)) (by kernel_rfl) (by kernel_rfl) (by kernel_rfl) (door_met os _))
    laidOut3 (by kernel_rfl) (by kernel_rfl) (by kernel_rfl) rfl (len_8 fun _ _ _ _ _ _ _ _ => rfl)
    (fun w => ⟨o_int (by kernel_rfl), o_fives, o_fives, o_int (by kernel_rfl), o_int (by kernel_rfl), o_int (by kernel_rfl), o_str, o_int (by kernel_rfl), trivial⟩)
    (allP_8 fun a0 a1 a2 a3 a4 a5 a6 a7 h0 h1 h2 h3 h4 h5 h6 h7 => by
      obtain ⟨x0, hx0, rfl⟩ := h0
      obtain ⟨x1, hx1, hr1, rfl⟩ := h1
      obtain ⟨x2, hx2, hr2, rfl⟩ := h2
      obtain ⟨x3, hx3, rfl⟩ := h3
      obtain ⟨x4, hx4, rfl⟩ := h4
      obtain ⟨x5, hx5, rfl⟩ := h5
      obtain ⟨x6, hx6, rfl⟩ := h6
      obtain ⟨x7, hx7, rfl⟩ := h7
      exact matches40_ev x0 x1 x2 x3 x4 x5 x6 x7 hx0 hx1 hr1 hx2 hr2 hx3 hx4 hx5 hx6 hx7)
    (fun _ _ h => gok h)
theorem auditMatchesReference_row : Rows.AuditMatchesReferenceSaid :=
  OpenClaim.holds_of_wide 3 Tryd.f3 rfl rfl rfl rfl rfl rfl rfl ⟨rfl, rfl, rfl, rfl, rfl⟩ rfl rfl rfl rfl rfl (by kernel_rfl) Tryd.func3 (by kernel_rfl)
    (of_decide_eq_true (by kernel_rfl)) (by unfold Func.isWrapper; first | (rw [if_pos (by decide +kernel)]; kernel_rfl) | (rw [if_neg (by decide +kernel)]; exact ⟨rfl, rfl⟩))
    (fun os started H enc _ => auditMatchesReference_lifted os started H enc)
theorem auditMatchesReference_holds : Rows.AuditMatchesReferenceCardSaid :=
  Claim7.holds_tied_plain_at .later [] [.data] true (true, "15e72945ea0d842684219eb61c4c3078e08fef8eedac21bc7f2d20fbaca9026f") false
    auditMatchesReference_row (fun _ h => by cases h) (by kernel_rfl) (fun _ h => by cases h) auditMatchesReference_row_tie rfl ⟨rfl, rfl⟩ (by kernel_rfl) rfl
    (fun f fn hf hfn => by
      obtain rfl : f = 3 := Option.some.inj ((show Tryd.prog.funcNamed "dialtone/dialtonelaw40.AuditMatchesReference" = some 3 by kernel_rfl).symm.trans hf) |>.symm
      obtain rfl : fn = Tryd.f3 := (Option.some.inj (Tryd.func3.symm.trans hfn)).symm
      exact ⟨by kernel_rfl, fun j t ht => by
          rw [Tryd.params3] at ht
          rcases j with _ | j
          · obtain rfl : t = 3 := by simpa using ht.symm
            exact (show Tryd.prog.wantsStandIn 3 = false by kernel_rfl)
          rcases j with _ | j
          · obtain rfl : t = 22 := by simpa using ht.symm
            exact (show Tryd.prog.wantsStandIn 22 = false by kernel_rfl)
          rcases j with _ | j
          · obtain rfl : t = 22 := by simpa using ht.symm
            exact (show Tryd.prog.wantsStandIn 22 = false by kernel_rfl)
          rcases j with _ | j
          · obtain rfl : t = 3 := by simpa using ht.symm
            exact (show Tryd.prog.wantsStandIn 3 = false by kernel_rfl)
          rcases j with _ | j
          · obtain rfl : t = 3 := by simpa using ht.symm
            exact (show Tryd.prog.wantsStandIn 3 = false by kernel_rfl)
          rcases j with _ | j
          · obtain rfl : t = 3 := by simpa using ht.symm
            exact (show Tryd.prog.wantsStandIn 3 = false by kernel_rfl)
          rcases j with _ | j
          · obtain rfl : t = 9 := by simpa using ht.symm
            exact (show Tryd.prog.wantsStandIn 9 = false by kernel_rfl)
          rcases j with _ | j
          · obtain rfl : t = 3 := by simpa using ht.symm
            exact (show Tryd.prog.wantsStandIn 3 = false by kernel_rfl)
          simp at ht⟩)
    (by kernel_rfl)
#print axioms auditMatchesReference_holds
end Go.Proofs.YtgbcfpcjljhijaaDoor

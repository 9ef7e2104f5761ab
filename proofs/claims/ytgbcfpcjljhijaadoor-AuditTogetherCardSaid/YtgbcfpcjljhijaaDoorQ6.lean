/- Chapter 40, AuditTogether: if every customer's account is accepted against one seal, the sums of all accounts are the seal's Sums, unless two of the hashed strings collide. Conditions: the package variable digest.round reads as the program's text lays it (tied). -/
import Derived.Test.YtgbcfpcjljhijaaDoorKI
set_option linter.unusedVariables false
set_option linter.unusedSimpArgs false
set_option maxRecDepth 100000
namespace Go.Proofs.YtgbcfpcjljhijaaDoor
open Go.Vai Go Go.Proofs
open Nat (reduceEqDiff reduceMul reduceAdd reduceDiv reduceLeDiff)
open Int (reduceToNat reduceNe reduceEq reduceLT reduceLE)
def bentC (c : Ch) (how x : Int) : Ch :=
  if pickF how 5 = 0 then { c with h := x } else if pickF how 5 = 1 then { c with p := x } else if pickF how 5 = 2 then { c with q := x } else if pickF how 5 = 3 then { c with a := x } else { c with t := c.t ++ ⟨#[120]⟩ }
theorem bentC_ev (c : Ch) (how x : Int) (hh : R64 how) (ht : c.t.size ≤ 1000) : Ev Tryd.prog 14 [CH c, I how, I x] (CH (bentC c how x)) := by
  have hp := pickR_ev how 5 hh (by omega)
  unfold bentC
  generalize pickF how 5 = k at *
  have hz : c.t.size + #[(120 : UInt8)].size ≤ 9223372036854775807 := by simp; omega
  refine ev_of Tryd.func14 rfl (by kernel_rfl) mo (Nat.le_of_ble_eq_true rfl) ?_
  simp -implicitDefEqProofs (disch := omega) only [go_sem, Tryd.ntmps14]
  refine callC_at hp ?_
  simp -implicitDefEqProofs (disch := omega) only [go_sem]
  refine branch_mk (fun h => ?_) (fun h => ?_)
  · simp -implicitDefEqProofs (disch := omega) only [go_sem, h, and_self, Tryd.results14]
  simp -implicitDefEqProofs (disch := omega) only [go_sem, h]
  refine branch_mk (fun h1 => ?_) (fun h1 => ?_)
  · simp -implicitDefEqProofs (disch := omega) only [go_sem, h1, and_self, Tryd.results14]
  simp -implicitDefEqProofs (disch := omega) only [go_sem, h, h1]
  refine branch_mk (fun h2 => ?_) (fun h2 => ?_)
  · simp -implicitDefEqProofs (disch := omega) only [go_sem, h2, and_self, Tryd.results14]
  simp -implicitDefEqProofs (disch := omega) only [go_sem, h, h1, h2]
  refine branch_mk (fun h3 => ?_) (fun h3 => ?_)
  · simp -implicitDefEqProofs (disch := omega) only [go_sem, h3, and_self, Tryd.results14]
  simp -implicitDefEqProofs (disch := omega) only [go_sem, h, h1, h2, h3, and_self, hz, Tryd.results14]
def collF (a b : List ByteArray) : Bool := a.any fun x => b.any fun y => decide (x ≠ y ∧ shaF x = shaF y)
theorem collF_iff {a b : List ByteArray} : collF a b = true ↔ Coll a b := by
  simp only [collF, List.any_eq_true, decide_eq_true_eq]; rfl
theorem collF_no {a b : List ByteArray} (h : ∀ i, i < a.length → ∀ j, j < b.length → ¬ (gd a i ≠ gd b j ∧ shaF (gd a i) = shaF (gd b j))) : collF a b = false := by
  cases e : collF a b with
  | false => rfl
  | true =>
    obtain ⟨x, hx, y, hy, hn⟩ := collF_iff.1 e
    obtain ⟨i, hi, rfl⟩ := List.mem_iff_getElem.1 hx
    obtain ⟨j, hj, rfl⟩ := List.mem_iff_getElem.1 hy
    have := h i hi j hj
    rw [gd_get _ i hi, gd_get _ j hj] at this
    exact (this hn).elim
theorem collided_ev (a b : List ByteArray) (ha : a.length ≤ 1000000) (hb : b.length ≤ 1000000) (has : ∀ x ∈ a, x.size ≤ 100000000) (hbs : ∀ x ∈ b, x.size ≤ 100000000) : Ev Tryd.prog 33 [SLs a, SLs b] (B (collF a b)) := by
  refine ev_of Tryd.func33 rfl (by kernel_rfl) mo (Nat.le_of_ble_eq_true rfl) ?_
  simp -implicitDefEqProofs (disch := omega) only [go_sem, Tryd.ntmps33]
  refine loopC_mk (fun n E σ => ∃ v : Nat, v + n = b.length ∧ E 0 = SLs a ∧ E 1 = SLs b ∧ E 5 = .own 71303248 1 0 v ∧ E 6 = I v ∧ σ 71303248 = some ⟨9, 1, ((b.take v).map shaF).map Str⟩) b.length ⟨0, by omega, ?_⟩ ?_
  · simp -implicitDefEqProofs (disch := omega) only [go_sem]
    simp
  rintro n E σ ⟨v, hv, h0, h1, h5, h6, s5⟩
  simp -implicitDefEqProofs (disch := omega) only [go_sem, h0, h1, h5, h6, s5]
  refine branch_mk (fun hc => ?_) (fun hc => ?_)
  · simp -implicitDefEqProofs (disch := omega) only [go_sem, h0, h1, h5, h6, s5]
    refine callC_at (sumR_ev (gd b v) (hbs _ (gd_mem b v (by omega)))) ?_
    have hvl : (b.take v).length = v := by rw [List.length_take]; omega
    have hvt : (b.take v).take v = b.take v := by rw [List.take_take, Nat.min_self]
    have htk : (b.take (v + 1)).map shaF = (b.take v).map shaF ++ [shaF (gd b v)] := by rw [List.take_add_one, gd_some b v (by omega)]; simp
    simp -implicitDefEqProofs (disch := omega) only [go_sem, h0, h1, h5, h6, s5, hvl, hvt, htk.symm]
    refine againQ_mk (n - 1) (by omega) ⟨v + 1, by omega, ?_⟩
    simp -implicitDefEqProofs (disch := omega) only [go_sem, h0, h1, h5, h6, s5]
    simp
  obtain rfl : v = b.length := by omega
  rw [List.take_length] at s5
  simp -implicitDefEqProofs (disch := omega) only [go_sem, h0, h1, h5, h6, s5]
  refine loopC_mk (fun n E σ => ∃ v : Nat, v + n = a.length ∧ E 0 = SLs a ∧ E 1 = SLs b ∧ E 5 = .own 71303248 1 0 b.length ∧ E 7 = I v ∧ σ 71303248 = some ⟨9, 1, (b.map shaF).map Str⟩ ∧ ∀ i, i < v → ∀ j, j < b.length → ¬ (gd a i ≠ gd b j ∧ shaF (gd a i) = shaF (gd b j))) a.length ⟨0, by omega, ?_⟩ ?_
  · simp -implicitDefEqProofs (disch := omega) only [go_sem, h0, h1, h5, h6, s5]
    simp
  clear h0 h1 h5 h6 s5 hc E σ
  rintro n E σ ⟨v, hv, h0, h1, h5, h7, s5, hn⟩
  simp -implicitDefEqProofs (disch := omega) only [go_sem, h0, h1, h5, h7, s5]
  refine branch_mk (fun hc => ?_) (fun hc => ?_)
  · simp -implicitDefEqProofs (disch := omega) only [go_sem, h0, h1, h5, h7, s5]
    refine callC_at (sumR_ev (gd a v) (has _ (gd_mem a v (by omega)))) ?_
    simp -implicitDefEqProofs (disch := omega) only [go_sem, h0, h1, h5, h7, s5]
    refine loopC_mk (fun n E σ => ∃ w : Nat, w + n = b.length ∧ E 0 = SLs a ∧ E 1 = SLs b ∧ E 5 = .own 71303248 1 0 b.length ∧ E 7 = I v ∧ E 8 = Str (shaF (gd a v)) ∧ E 9 = I w ∧ σ 71303248 = some ⟨9, 1, (b.map shaF).map Str⟩ ∧ ∀ j, j < w → ¬ (gd a v ≠ gd b j ∧ shaF (gd a v) = shaF (gd b j))) b.length ⟨0, by omega, ?_⟩ ?_
    · simp -implicitDefEqProofs (disch := omega) only [go_sem, h0, h1, h5, h7, s5]
      simp
    clear h0 h1 h5 h7 s5 E σ
    rintro m E σ ⟨w, hw, h0, h1, h5, h7, h8, h9, s5, hm⟩
    simp -implicitDefEqProofs (disch := omega) only [go_sem, h0, h1, h5, h7, h8, h9, s5]
    refine branch_mk (fun hc => ?_) (fun hc => ?_)
    · have hgm : gd (b.map shaF) w = shaF (gd b w) := by rw [gd_get _ w (by simp; omega), gd_get _ w (by omega), List.getElem_map]
      simp -implicitDefEqProofs (disch := omega) only [go_sem, h0, h1, h5, h7, h8, h9, s5, str_beq]
      refine branch_mk (fun hd => ?_) (fun hd => ?_)
      · simp -implicitDefEqProofs (disch := omega) only [go_sem, h0, h1, h5, h7, h8, h9, s5, str_beq]
        refine branch_mk (fun he => ?_) (fun he => ?_)
        · have hC : collF a b = true := collF_iff.2 ⟨_, gd_mem a v (by omega), _, gd_mem b w (by omega), hd, by simpa [hgm] using he⟩
          simp -implicitDefEqProofs (disch := omega) only [go_sem, h0, h1, h5, h7, h8, h9, s5, hC, Tryd.results33]
        · simp -implicitDefEqProofs (disch := omega) only [go_sem, h0, h1, h5, h7, h8, h9, s5, str_beq]
          refine againQ_mk (m - 1) (by omega) ⟨w + 1, by omega, ?_⟩
          simp -implicitDefEqProofs (disch := omega) only [go_sem, h0, h1, h5, h7, h8, h9, s5]
          refine ⟨by simp, fun j hj => ?_⟩
          by_cases e : j = w
          · subst e
            intro h; exact he (by simpa [hgm] using h.2)
          · exact hm j (by omega)
      · simp -implicitDefEqProofs (disch := omega) only [go_sem, h0, h1, h5, h7, h8, h9, s5, str_beq]
        refine againQ_mk (m - 1) (by omega) ⟨w + 1, by omega, ?_⟩
        simp -implicitDefEqProofs (disch := omega) only [go_sem, h0, h1, h5, h7, h8, h9, s5]
        refine ⟨by simp, fun j hj => ?_⟩
        by_cases e : j = w
        · subst e
          intro h; exact hd h.1
        · exact hm j (by omega)
    · simp -implicitDefEqProofs (disch := omega) only [go_sem, h0, h1, h5, h7, h8, h9, s5]
      refine againQ_mk (n - 1) (by omega) ⟨v + 1, by omega, ?_⟩
      simp -implicitDefEqProofs (disch := omega) only [go_sem, h0, h1, h5, h7, h8, h9, s5]
      refine ⟨by simp, fun i hi j hj => ?_⟩
      by_cases e : i = v
      · subst e; exact hm j (by omega)
      · exact hn i (by omega) j hj
  · have hC := collF_no (a := a) (b := b) fun i hi j hj => hn i (by omega) j hj
    simp -implicitDefEqProofs (disch := omega) only [go_sem, h0, h1, h5, h7, s5, hC, Tryd.results33]
end Go.Proofs.YtgbcfpcjljhijaaDoor
set_option maxRecDepth 100000
namespace Go.Proofs.YtgbcfpcjljhijaaDoor
open Go.Vai Go Go.Proofs
open Nat (reduceEqDiff reduceMul reduceAdd reduceDiv reduceLeDiff)
open Int (reduceToNat reduceNe reduceEq reduceLT reduceLE)
def bentF (a : Acc) (how x y : Int) : Acc :=
  if pickF how 8 = 0 ∨ pickF how 8 = 1 then
    (if 0 < a.l.length then { a with l := a.l.set (pickF y a.l.length).toNat (bentC (gd a.l (pickF y a.l.length).toNat) (how.tdiv 8) x) } else { a with l := [⟨a.h, 0, 1, pickF x 100, ByteArray.empty⟩] })
  else if pickF how 8 = 2 then { a with s := shaF a.s }
  else if pickF how 8 = 3 then { a with h := x }
  else if pickF how 8 = 4 then { a with p := a.p.set (pickF y 6).toNat ((gd a.p (pickF y 6).toNat).1.set (pickF x 8).toNat (gd (gd a.p (pickF y 6).toNat).1 (pickF x 8).toNat + (1 + pickF x 9)), (gd a.p (pickF y 6).toNat).2) }
  else if pickF how 8 = 5 then { a with p := a.p.set (pickF y 6).toNat ((gd a.p (pickF y 6).toNat).1, shaF (gd a.p (pickF y 6).toNat).2) }
  else if pickF how 8 = 6 then { a with p := a.p.take 5 }
  else if 0 < a.l.length then { a with l := a.l.take (a.l.length - 1) } else { a with s := ByteArray.empty }
section
variable (π : Nat → Nat)
@[go_sem] theorem rnL_CH (l : List Ch) : AV.rnL π (l.map CH) = l.map CH := AV.rnL_free π _ (namesL_CH _ l)
@[go_sem] theorem rnL_I (l : List Int) : AV.rnL π (l.map I) = l.map I := AV.rnL_free π _ (namesL_map _ l I fun _ => rfl)
@[go_sem] theorem rnL_RP (l : List Tot) : AV.rnL π (l.map RP) = l.map RP := AV.rnL_free π _ (namesL_map _ l RP fun _ => rfl)
end
def elR (X : Nat) (t : Tot) : AV := .agg [.own X 1 0 8, Str t.2]
def lsR (X j : Nat) (t : Tot) (p : List Tot) : List AV := (p.map RP).set j (elR X t)
theorem lsR_len (X j : Nat) (t : Tot) (p : List Tot) : (lsR X j t p).length = p.length := by simp [lsR]
theorem lsR_ge {X j : Nat} {t : Tot} {p : List Tot} (h : p.length ≤ j) : lsR X j t p = p.map RP := by
  unfold lsR; rw [List.set_eq_of_length_le (by simpa using h)]
theorem lsR_map (X j : Nat) (t : Tot) (p : List Tot) (f : AV → AV) (h : ∀ t, f (RP t) = RP t) : (lsR X j t p).map f = (p.map RP).set j (f (elR X t)) := by
  unfold lsR; rw [List.map_set, List.map_map]; congr 1
  exact List.map_congr_left fun t _ => h t
theorem frz_RP (q r : Nat → Bool) (σ : Store) (t : Tot) : frzE q r σ (RP t) = RP t := by
  simp -implicitDefEqProofs (disch := omega) only [go_sem]
theorem namesL_set (q : Nat → Bool) (e : AV) (he : AV.namesB q e = false) : ∀ (l : List AV) (j : Nat), AV.namesL q l = false → AV.namesL q (l.set j e) = false
  | [], _, _ => rfl
  | c :: l, 0, h => by simp only [AV.namesL, Bool.or_eq_false_iff] at h; simp [AV.namesL, he, h.2]
  | c :: l, j + 1, h => by simp only [AV.namesL, Bool.or_eq_false_iff] at h; simp [AV.namesL, h.1, namesL_set q e he l j h.2]
def normQ (J : Env → Store → Prop) : Exit → Env → Store → Prop
  | .normal => J
  | _ => fun _ _ => False
@[go_sem] theorem normQ_normal (J : Env → Store → Prop) (E : Env) (σ : Store) : normQ J .normal E σ = J E σ := rfl
theorem normQ_h {J : Env → Store → Prop} {Q : Exit → Env → Store → Prop} (h : ∀ E σ, J E σ → Q .normal E σ) : ∀ e E σ, normQ J e E σ → Q e E σ
  | .normal, E, σ, hj => h E σ hj
  | .exit _, _, _, hj => hj.elim
  | .ret, _, _, hj => hj.elim
theorem branch_nq {S : Sp} [hp : Plain S] {c : Prop} {a1 a2 : Code} {Q : Exit → Env → Store → Prop} {E E' : Env} {σ : Store} (J : Env → Store → Prop) (h1 : c → awpC S a1 (normQ J) E σ) (h2 : ¬ c → awpC S a2 (normQ J) E' σ) (h3 : ∀ E σ, J E σ → Q .normal E σ) :
    branch c (awpC S a1 Q) E (awpC S a2 Q) E' σ :=
  ⟨fun e => awpC_mono hp.mono a1 (normQ_h h3) (h1 e), fun e => awpC_mono hp.mono a2 (normQ_h h3) (h2 e)⟩
def PathFrz (X : Nat) (o : Option Blk) (pv : List AV) (pp : List Tot) : Prop := ∀ σ : Store, σ X = o → frzB (notI (inI [X])) (inL []) σ ⟨35, 2, pv⟩ = ⟨35, 2, pp.map RP⟩
theorem pathFrz_RP (X : Nat) (o : Option Blk) (p : List Tot) : PathFrz X o (p.map RP) p := fun σ _ => by
  simp -implicitDefEqProofs (disch := omega) only [go_sem]
theorem pathFrz_eq (X : Nat) (o : Option Blk) {pv : List AV} {pp : List Tot} (h : pv = pp.map RP) : PathFrz X o pv pp := by subst h; exact pathFrz_RP X o pp
theorem namesL_last (q : Nat → Bool) : ∀ (l : List AV) (e : AV), AV.namesB q e = true → AV.namesL q (l ++ [e]) = true
  | [], e, h => by simp [AV.namesL, h]
  | c :: l, e, h => by simp [AV.namesL, namesL_last q l e h]
theorem namesL_snoc (q : Nat → Bool) : ∀ (l : List AV) (e : AV), AV.namesL q l = false → AV.namesB q e = false → AV.namesL q (l ++ [e]) = false
  | [], e, _, h => by simp [AV.namesL, h]
  | c :: l, e, hl, h => by
    simp only [AV.namesL, Bool.or_eq_false_iff] at hl
    simp [AV.namesL, hl.1, namesL_snoc q l e hl.2 h]
theorem lsR_names {X j : Nat} {t : Tot} {p : List Tot} {q : Nat → Bool} (h : q X = false) : AV.namesL q (lsR X j t p) = false :=
  namesL_set q _ (by simp [elR, AV.namesB, AV.namesL, h]) _ _ (namesL_map q p RP fun _ => rfl)
theorem lsR_ne {X j : Nat} {t u : Tot} {p : List Tot} (h : p.length ≠ j) : lsR X j t p ++ [RP u] = lsR X j t (p ++ [u]) := by
  unfold lsR
  rw [List.map_append, List.set_append]
  split
  · rfl
  · rename_i hn
    rw [List.set_eq_of_length_le (by simp at hn ⊢; omega), List.set_eq_of_length_le (by simp at hn ⊢; omega)]; rfl
theorem lsR_eq {X j : Nat} {t u : Tot} {p : List Tot} (h : p.length = j) : p.map RP ++ [elR X t] = lsR X j t (p ++ [u]) := by
  unfold lsR
  rw [List.map_append, List.set_append, if_neg (by simp; omega)]
  subst h; simp
theorem lsR_frz {X j : Nat} {t : Tot} {p : List Tot} {q r : Nat → Bool} {σ : Store} (h : q X = true) : (lsR X j t p).map (frzE q r σ) = lsR X j t p := by
  rw [lsR_map _ _ _ _ _ (frz_RP q r σ)]
  unfold lsR elR
  congr 1
  simp -implicitDefEqProofs (disch := omega) only [go_sem, h]
theorem lsR_last {X j : Nat} {t : Tot} {p : List Tot} {r : Nat → Bool} {σ : Store} {s' : List Int} (hX : σ X = some ⟨3, 1, s'.map I⟩) (h8 : s'.length = 8) (hr : r X = false) : (lsR X j t p).map (frzE (notI (inI [X])) r σ) = (p.set j (s', t.2)).map RP := by
  rw [lsR_map _ _ _ _ _ (frz_RP _ r σ), List.map_set]
  congr 1
  unfold elR
  have : s'.take 8 = s' := List.take_of_length_le (by omega)
  simp -implicitDefEqProofs (disch := omega) only [go_sem, hX, h8, hr, this]
  simp
theorem rn_last {X Y j : Nat} {t u : Tot} {p : List Tot} (h : p.length = j) (he : t.2 = u.2) : AV.rnL (swp Y X) (p.map RP ++ [.agg [.own Y 1 0 8, Str u.2]]) = lsR X j t (p ++ [u]) := by
  rw [← lsR_eq (t := t) (u := u) h, rnL_eq, List.map_append, ← rnL_eq, rnL_RP]
  unfold elR
  simp -implicitDefEqProofs (disch := omega) only [go_sem, he]
theorem namesL_setT (q : Nat → Bool) (e : AV) (he : AV.namesB q e = true) : ∀ (l : List AV) (j : Nat), j < l.length → AV.namesL q (l.set j e) = true
  | [], _, h => by cases h
  | c :: l, 0, _ => by simp [AV.namesL, he]
  | c :: l, j + 1, h => by simp [AV.namesL, namesL_setT q e he l j (by simpa using h)]
theorem pathFrz_one {X j : Nat} {t : Tot} {p : List Tot} {s' : List Int} (hj : j < p.length) (h8 : s'.length = 8) (hX : inL [] X = false) : PathFrz X (some ⟨3, 1, s'.map I⟩) (lsR X j t p) (p.set j (s', t.2)) := fun σ hσ => by
  have hn : AV.namesL (notI (notI (inI [X]))) (lsR X j t p) = true := namesL_setT _ _ (by simp [elR, AV.namesB, AV.namesL, notI, inI]) _ _ (by simpa using hj)
  unfold frzB
  rw [hn, if_neg (by simp), if_neg (by simp)]
  show (⟨35, 2, (lsR X j t p).map (frzE (notI (inI [X])) (inL []) σ)⟩ : Blk) = _
  rw [lsR_last hσ h8 hX]
theorem sml_le {l : List Tot} (h : ∀ t ∈ l, TotB 1000000000000 t) {v : Nat} (hv : v < l.length) : TotB 1000000000000 (gd l v) := h _ (gd_mem l v hv)
set_option maxHeartbeats 4000000 in
theorem bent_ev (a : Acc) (how x y : Int) (hh : R64 how) (hx : R64 x) (hy : R64 y) (hl : a.l.length ≤ 100) (hlt : ∀ c ∈ a.l, c.t.size ≤ 1000) (hs : a.s.size ≤ 1000) (hp : a.p.length = 6) (hpt : ∀ t ∈ a.p, TotB 1000000000000 t) :
    Ev Tryd.prog 29 [AP a, I how, I x, I y] (.tup [AP (bentF a how x y), B (!decide (a.h = (bentF a how x y).h ∧ a.s = (bentF a how x y).s ∧ a.l = (bentF a how x y).l ∧ a.p = (bentF a how x y).p))]) := by
  have pk := pickR_ev how 8 hh (by omega)
  have pkb := pickF_in (c := how) (n := 8) (by omega)
  have px8 := pickR_ev x 8 hx (by omega)
  have bx8 := pickF_in (c := x) (n := 8) (by omega)
  have px9 := pickR_ev x 9 hx (by omega)
  have bx9 := pickF_in (c := x) (n := 9) (by omega)
  have px100 := pickR_ev x 100 hx (by omega)
  have py6 := pickR_ev y 6 hy (by omega)
  have by6 := pickF_in (c := y) (n := 6) (by omega)
  obtain ⟨b, hb⟩ : ∃ b, b = bentF a how x y := ⟨_, rfl⟩
  rw [← hb]
  unfold bentF at hb
  generalize pickF how 8 = k at *
  generalize pickF x 8 = x8 at *
  generalize pickF x 9 = x9 at *
  generalize pickF x 100 = x100 at *
  generalize hj6 : pickF y 6 = y6 at *
  obtain ⟨h, l, s, p⟩ := a
  simp only at hl hlt hs hp hpt hb
  dsimp only
  obtain ⟨j, hj⟩ : ∃ j : Nat, j = if k = 4 then y6.toNat else 6 := ⟨_, rfl⟩
  obtain ⟨L, hL⟩ : ∃ L : Nat → List AV, L = fun v => lsR 62914625 j (gd p j) (p.take v) := ⟨_, rfl⟩
  obtain ⟨Z, hZ⟩ : ∃ Z : Nat → Option Blk, Z = fun v => if j < v then some ⟨3, 1, (gd p j).1.map I⟩ else none := ⟨_, rfl⟩
  have hLl : ∀ v, v ≤ 6 → (L v).length = v := fun v hv => by rw [hL]; simp only; rw [lsR_len, List.length_take]; omega
  have hLn : ∀ v q, q 62914625 = false → AV.namesL q (L v) = false := fun v q hq => by rw [hL]; exact lsR_names hq
  have hLk : ∀ v q, q 62914625 = false → Blk.kill q ⟨35, 2, L v⟩ = ⟨35, 2, L v⟩ := fun v q hq => by have := hLn v q hq; simp -implicitDefEqProofs (disch := omega) only [go_sem, this]
  have hLo : ∀ v n, n ≠ 3932164 → AV.namesL (own n) (L v) = false := fun v n hn => hLn v _ (by simp only [own, beq_eq_false_iff_ne]; omega)
  have hLi : ∀ v n, n ≠ 62914625 → AV.namesL (isId n) (L v) = false := fun v n hn => hLn v _ (by simp only [isId, beq_eq_false_iff_ne]; omega)
  have hLf : ∀ v q r σ, q 62914625 = true → (L v).map (frzE q r σ) = L v := fun v q r σ hq => by rw [hL]; exact lsR_frz hq
  have hZk : ∀ v q, (Z v).map (Blk.kill q) = Z v := fun v q => by rw [hZ]; simp only; split <;> first | rfl | simp -implicitDefEqProofs (disch := omega) only [go_sem]
  have hZf : ∀ v q r σ, (Z v).map (frzB q r σ) = Z v := fun v q r σ => by rw [hZ]; simp only; split <;> first | rfl | simp -implicitDefEqProofs (disch := omega) only [go_sem]
  have hL0 : L 0 = [] := by rw [hL]; simp [lsR]
  have hZ0 : Z 0 = none := by rw [hZ]; simp
  have hLne : ∀ v, v < 6 → v ≠ j → L v ++ [.agg [.sl 1 ((gd p v).1.map I), .v (.string (gd p v).2)]] = L (v + 1) := fun v hv hn => by
    rw [hL]; simp only; rw [List.take_add_one, gd_some p v (by omega)]
    exact lsR_ne (by rw [List.length_take]; omega)
  have hLeq : j < 6 → AV.rnL (swp 62915072 62914625) (L j ++ [.agg [.own 62915072 1 0 8, .v (.string (gd p j).2)]]) = L (j + 1) := fun hj6 => by
    rw [hL]; simp only; rw [List.take_add_one, gd_some p j (by omega), lsR_ge (by rw [List.length_take]; omega)]
    exact rn_last (by rw [List.length_take]; omega) rfl
  have hZne : ∀ v, v ≠ j → Z v = Z (v + 1) := fun v hn => by
    rw [hZ]; simp only
    by_cases e : j < v
    · rw [if_pos e, if_pos (by omega)]
    · rw [if_neg e, if_neg (by omega)]
  have hZeq : Z (j + 1) = some ⟨3, 1, (gd p j).1.map I⟩ := by rw [hZ]; simp
  refine ev_ofB [1, 2, 4, 5, 30] Tryd.func29 rfl (by kernel_rfl) mo (Nat.le_of_ble_eq_true rfl) ?_
  simp -implicitDefEqProofs (disch := omega) only [go_sem, Tryd.ntmps29]
  refine region_J (Plain.mono) (fun D E σ => E 1 = I how ∧ E 2 = I x ∧ E 3 = I y ∧ E 4 = .ptr 62914624 4 0 0 ∧ E 8 = .ptr 62914688 4 0 0 ∧ E 9 = B false ∧ σ 62914624 = some ⟨51, 4, [.agg [I h, CL l, Str s, RPL p]]⟩ ∧ σ 62914688 = some ⟨51, 4, [.agg [I 0, .v (.slice none 0 0), Str ByteArray.empty, .v (.slice none 0 0)]]⟩ ∧ σ 62914625 = Z 0 ∧ (D 10 = true → D 8 = true) ∧ (D 8 = true → D 5 = true) ∧ (D 5 = true → D 2 = true) ∧ (D 10 = true → D 9 = true) ∧ (D 2 = true → D 5 = false → σ 62914816 = some ⟨30, 5, []⟩) ∧ (D 2 = true → D 5 = false → E 16 = .own 62914816 5 0 0) ∧ (D 5 = true → σ 62914816 = some ⟨30, 5, l.map CH⟩) ∧ (D 5 = true → E 19 = .own 62914816 5 0 l.length) ∧ (D 9 = true → D 10 = false → σ 62914720 = some ⟨51, 4, [.agg [I 0, .v (.slice none 0 0), Str ByteArray.empty, .v (.slice none 0 0)]]⟩) ∧ (D 10 = true → σ 62914720 = some ⟨51, 4, [.agg [I h, .own 62914816 5 0 l.length, Str s, .v (.slice none 0 0)]]⟩) ∧ (D 0 = true → E 14 = .ptr 62914624 4 0 0) ∧ (D 1 = true → E 15 = I h) ∧ (D 3 = true → E 17 = .ptr 62914624 4 0 1) ∧ (D 4 = true → E 18 = CL l) ∧ (D 6 = true → E 20 = .ptr 62914624 4 0 2) ∧ (D 7 = true → E 21 = Str s) ∧ (D 8 = true → E 22 = .agg [I h, .own 62914816 5 0 l.length, Str s, .v (.slice none 0 0)]) ∧ (D 9 = true → E 10 = .ptr 62914720 4 0 0)) ?_ ?_ ?_
  · simp -implicitDefEqProofs (disch := omega) only [go_sem, hZk, hZ0]
    simp
  · simp only [stepsJ, and_true]
    refine ⟨?_, ?_, ?_, ?_, ?_, ?_, ?_, ?_, ?_, ?_, ?_⟩
    · rintro D hD hd E σ ⟨e1, e2, e3, e4, e8, e9, s4, s8, sX, c10_8, c8_5, c5_2, c10_9, m0_0, n0_0, m0_1, n0_1, m1_0, m1_1, j0, j1, j3, j4, j6, j7, j8, j9⟩
      have hD : D 0 = false := hD
      simp -implicitDefEqProofs (disch := omega) only [go_sem, e1, e2, e3, e4, e8, e9, s4, s8, sX, hZk, hZ0]
      repeat' apply And.intro
      all_goals first | assumption | (intro _; assumption) | trivial | (simp -implicitDefEqProofs (contextual := true) (disch := first | assumption | omega) only [go_sem, m0_1, n0_1, m1_1, j0, j1, j3, j4, j6, j7, j8, j9, m0_0, n0_0, m1_0, implies_true, forall_const, false_implies, true_implies]; done) | (intros; contradiction) | trace_state
    · rintro D hD hd E σ ⟨e1, e2, e3, e4, e8, e9, s4, s8, sX, c10_8, c8_5, c5_2, c10_9, m0_0, n0_0, m0_1, n0_1, m1_0, m1_1, j0, j1, j3, j4, j6, j7, j8, j9⟩
      have hD : D 1 = false := hD
      have d0 : D 0 = true := hd ⟨0, .data⟩ (by simp) rfl
      have q0 := j0 d0
      simp -implicitDefEqProofs (disch := omega) only [go_sem, e1, e2, e3, e4, e8, e9, s4, s8, sX, q0, hZk, hZ0]
      repeat' apply And.intro
      all_goals first | assumption | (intro _; assumption) | trivial | (simp -implicitDefEqProofs (contextual := true) (disch := first | assumption | omega) only [go_sem, m0_1, n0_1, m1_1, j0, j1, j3, j4, j6, j7, j8, j9, m0_0, n0_0, m1_0, implies_true, forall_const, false_implies, true_implies]; done) | (intros; contradiction) | trace_state
    · rintro D hD hd E σ ⟨e1, e2, e3, e4, e8, e9, s4, s8, sX, c10_8, c8_5, c5_2, c10_9, m0_0, n0_0, m0_1, n0_1, m1_0, m1_1, j0, j1, j3, j4, j6, j7, j8, j9⟩
      have hD : D 2 = false := hD
      simp -implicitDefEqProofs (disch := omega) only [go_sem, e1, e2, e3, e4, e8, e9, s4, s8, sX, hZk, hZ0]
      repeat' apply And.intro
      all_goals first | assumption | (intro _; assumption) | trivial | (intro h; intros; have hh := (c5_2 h); rw [hD] at hh; cases hh; done) | (intro h; intros; have hh := (c5_2 (c8_5 h)); rw [hD] at hh; cases hh; done) | (intro h; intros; have hh := (c5_2 (c8_5 (c10_8 h))); rw [hD] at hh; cases hh; done) | (simp -implicitDefEqProofs (contextual := true) (disch := first | assumption | omega) only [go_sem, m0_1, n0_1, m1_1, j0, j1, j3, j4, j6, j7, j8, j9, m0_0, n0_0, m1_0, implies_true, forall_const, false_implies, true_implies]; done) | (intros; contradiction) | trace_state
    · rintro D hD hd E σ ⟨e1, e2, e3, e4, e8, e9, s4, s8, sX, c10_8, c8_5, c5_2, c10_9, m0_0, n0_0, m0_1, n0_1, m1_0, m1_1, j0, j1, j3, j4, j6, j7, j8, j9⟩
      have hD : D 3 = false := hD
      simp -implicitDefEqProofs (disch := omega) only [go_sem, e1, e2, e3, e4, e8, e9, s4, s8, sX, hZk, hZ0]
      repeat' apply And.intro
      all_goals first | assumption | (intro _; assumption) | trivial | (simp -implicitDefEqProofs (contextual := true) (disch := first | assumption | omega) only [go_sem, m0_1, n0_1, m1_1, j0, j1, j3, j4, j6, j7, j8, j9, m0_0, n0_0, m1_0, implies_true, forall_const, false_implies, true_implies]; done) | (intros; contradiction) | trace_state
    · rintro D hD hd E σ ⟨e1, e2, e3, e4, e8, e9, s4, s8, sX, c10_8, c8_5, c5_2, c10_9, m0_0, n0_0, m0_1, n0_1, m1_0, m1_1, j0, j1, j3, j4, j6, j7, j8, j9⟩
      have hD : D 4 = false := hD
      have d3 : D 3 = true := hd ⟨3, .data⟩ (by simp) rfl
      have q3 := j3 d3
      simp -implicitDefEqProofs (disch := omega) only [go_sem, e1, e2, e3, e4, e8, e9, s4, s8, sX, q3, hZk, hZ0]
      repeat' apply And.intro
      all_goals first | assumption | (intro _; assumption) | trivial | (simp -implicitDefEqProofs (contextual := true) (disch := first | assumption | omega) only [go_sem, m0_1, n0_1, m1_1, j0, j1, j3, j4, j6, j7, j8, j9, m0_0, n0_0, m1_0, implies_true, forall_const, false_implies, true_implies]; done) | (intros; contradiction) | trace_state
    · rintro D hD hd E σ ⟨e1, e2, e3, e4, e8, e9, s4, s8, sX, c10_8, c8_5, c5_2, c10_9, m0_0, n0_0, m0_1, n0_1, m1_0, m1_1, j0, j1, j3, j4, j6, j7, j8, j9⟩
      have hD : D 5 = false := hD
      have d2 : D 2 = true := hd ⟨2, .data⟩ (by simp) rfl
      have d4 : D 4 = true := hd ⟨4, .data⟩ (by simp) rfl
      have q4 := j4 d4
      have g0 := m0_0 d2 hD
      have f0 := n0_0 d2 hD
      simp -implicitDefEqProofs (disch := omega) only [go_sem, e1, e2, e3, e4, e8, e9, s4, s8, sX, q4, g0, f0, hZk, hZ0]
      repeat' apply And.intro
      all_goals first | assumption | (intro _; assumption) | trivial | (intro h; intros; have hh := (c8_5 h); rw [hD] at hh; cases hh; done) | (intro h; intros; have hh := (c8_5 (c10_8 h)); rw [hD] at hh; cases hh; done) | (simp -implicitDefEqProofs (contextual := true) (disch := first | assumption | omega) only [go_sem, m0_1, n0_1, m1_1, j0, j1, j3, j4, j6, j7, j8, j9, m0_0, n0_0, m1_0, implies_true, forall_const, false_implies, true_implies]; done) | (intros; contradiction) | trace_state
    · rintro D hD hd E σ ⟨e1, e2, e3, e4, e8, e9, s4, s8, sX, c10_8, c8_5, c5_2, c10_9, m0_0, n0_0, m0_1, n0_1, m1_0, m1_1, j0, j1, j3, j4, j6, j7, j8, j9⟩
      have hD : D 6 = false := hD
      simp -implicitDefEqProofs (disch := omega) only [go_sem, e1, e2, e3, e4, e8, e9, s4, s8, sX, hZk, hZ0]
      repeat' apply And.intro
      all_goals first | assumption | (intro _; assumption) | trivial | (simp -implicitDefEqProofs (contextual := true) (disch := first | assumption | omega) only [go_sem, m0_1, n0_1, m1_1, j0, j1, j3, j4, j6, j7, j8, j9, m0_0, n0_0, m1_0, implies_true, forall_const, false_implies, true_implies]; done) | (intros; contradiction) | trace_state
    · rintro D hD hd E σ ⟨e1, e2, e3, e4, e8, e9, s4, s8, sX, c10_8, c8_5, c5_2, c10_9, m0_0, n0_0, m0_1, n0_1, m1_0, m1_1, j0, j1, j3, j4, j6, j7, j8, j9⟩
      have hD : D 7 = false := hD
      have d6 : D 6 = true := hd ⟨6, .data⟩ (by simp) rfl
      have q6 := j6 d6
      simp -implicitDefEqProofs (disch := omega) only [go_sem, e1, e2, e3, e4, e8, e9, s4, s8, sX, q6, hZk, hZ0]
      repeat' apply And.intro
      all_goals first | assumption | (intro _; assumption) | trivial | (simp -implicitDefEqProofs (contextual := true) (disch := first | assumption | omega) only [go_sem, m0_1, n0_1, m1_1, j0, j1, j3, j4, j6, j7, j8, j9, m0_0, n0_0, m1_0, implies_true, forall_const, false_implies, true_implies]; done) | (intros; contradiction) | trace_state
    · rintro D hD hd E σ ⟨e1, e2, e3, e4, e8, e9, s4, s8, sX, c10_8, c8_5, c5_2, c10_9, m0_0, n0_0, m0_1, n0_1, m1_0, m1_1, j0, j1, j3, j4, j6, j7, j8, j9⟩
      have hD : D 8 = false := hD
      have d1 : D 1 = true := hd ⟨1, .data⟩ (by simp) rfl
      have q1 := j1 d1
      have d5 : D 5 = true := hd ⟨5, .data⟩ (by simp) rfl
      have d7 : D 7 = true := hd ⟨7, .data⟩ (by simp) rfl
      have q7 := j7 d7
      have g0 := m0_1 d5
      have f0 := n0_1 d5
      simp -implicitDefEqProofs (disch := omega) only [go_sem, e1, e2, e3, e4, e8, e9, s4, s8, sX, q1, q7, g0, f0, hZk, hZ0]
      repeat' apply And.intro
      all_goals first | assumption | (intro _; assumption) | trivial | (intro h; intros; have hh := (c10_8 h); rw [hD] at hh; cases hh; done) | (intro _ h; rw [d5] at h; cases h; done) | (intro h; rw [d5] at h; cases h; done) | (simp -implicitDefEqProofs (contextual := true) (disch := first | assumption | omega) only [go_sem, m0_1, n0_1, m1_1, j0, j1, j3, j4, j6, j7, j8, j9, m0_0, n0_0, m1_0, implies_true, forall_const, false_implies, true_implies]; done) | (intros; contradiction) | trace_state
    · rintro D hD hd E σ ⟨e1, e2, e3, e4, e8, e9, s4, s8, sX, c10_8, c8_5, c5_2, c10_9, m0_0, n0_0, m0_1, n0_1, m1_0, m1_1, j0, j1, j3, j4, j6, j7, j8, j9⟩
      have hD : D 9 = false := hD
      simp -implicitDefEqProofs (disch := omega) only [go_sem, e1, e2, e3, e4, e8, e9, s4, s8, sX, hZk, hZ0]
      repeat' apply And.intro
      all_goals first | assumption | (intro _; assumption) | trivial | (intro h; intros; have hh := (c10_9 h); rw [hD] at hh; cases hh; done) | (simp -implicitDefEqProofs (contextual := true) (disch := first | assumption | omega) only [go_sem, m0_1, n0_1, m1_1, j0, j1, j3, j4, j6, j7, j8, j9, m0_0, n0_0, m1_0, implies_true, forall_const, false_implies, true_implies]; done) | (intros; contradiction) | trace_state
    · rintro D hD hd E σ ⟨e1, e2, e3, e4, e8, e9, s4, s8, sX, c10_8, c8_5, c5_2, c10_9, m0_0, n0_0, m0_1, n0_1, m1_0, m1_1, j0, j1, j3, j4, j6, j7, j8, j9⟩
      have hD : D 10 = false := hD
      have d8 : D 8 = true := hd ⟨8, .data⟩ (by simp) rfl
      have q8 := j8 d8
      have d9 : D 9 = true := hd ⟨9, .data⟩ (by simp) rfl
      have q9 := j9 d9
      have g1 := m1_0 d9 hD
      simp -implicitDefEqProofs (disch := omega) only [go_sem, e1, e2, e3, e4, e8, e9, s4, s8, sX, q8, q9, g1, hZk, hZ0]
      repeat' apply And.intro
      all_goals first | assumption | (intro _; assumption) | trivial | (intro _ h; rw [(c8_5 d8)] at h; cases h; done) | (intro h; rw [(c8_5 d8)] at h; cases h; done) | (simp -implicitDefEqProofs (contextual := true) (disch := first | assumption | omega) only [go_sem, m0_1, n0_1, m1_1, j0, j1, j3, j4, j6, j7, j8, j9, m0_0, n0_0, m1_0, implies_true, forall_const, false_implies, true_implies]; done) | (intros; contradiction) | trace_state
  · rintro D E σ hD ⟨e1, e2, e3, e4, e8, e9, s4, s8, sX, c10_8, c8_5, c5_2, c10_9, m0_0, n0_0, m0_1, n0_1, m1_0, m1_1, j0, j1, j3, j4, j6, j7, j8, j9⟩
    have g0 := m0_1 (hD 5 (by decide))
    have f0 := n0_1 (hD 5 (by decide))
    have g1 := m1_1 (hD 10 (by decide))
    have q0 := j0 (hD 0 (by decide))
    have q1 := j1 (hD 1 (by decide))
    have q3 := j3 (hD 3 (by decide))
    have q4 := j4 (hD 4 (by decide))
    have q6 := j6 (hD 6 (by decide))
    have q7 := j7 (hD 7 (by decide))
    have q8 := j8 (hD 8 (by decide))
    have q9 := j9 (hD 9 (by decide))
    clear c10_8 c8_5 c5_2 c10_9 m0_0 n0_0 m0_1 n0_1 m1_0 m1_1 j0 j1 j3 j4 j6 j7 j8 j9 hD
    refine nilOwn_C 62914720 62914721 0 3 35 2 (k := ⟨51, 4, [.agg [I h, .own 62914816 5 0 l.length, Str s, .v (.slice none 0 0)]]⟩) (el := .agg [I h, .own 62914816 5 0 l.length, Str s, .v (.slice none 0 0)]) (by simp -implicitDefEqProofs (disch := omega) only [go_sem, g1]) (by decide) rfl rfl (by simp) (by simp -implicitDefEqProofs (disch := omega) only [go_sem]) rfl ?_
    refine reg_mk Plain.mono ?_
    simp -implicitDefEqProofs (disch := omega) only [go_sem, e1, e2, e3, e4, e8, e9, s4, s8, sX, hZk, g0, g1, q9]
    refine loopC_mk (fun n E σ => ∃ v : Nat, v + n = 6 ∧ E 1 = I how ∧ E 2 = I x ∧ E 3 = I y ∧ E 4 = .ptr 62914624 4 0 0 ∧ E 8 = .ptr 62914688 4 0 0 ∧ E 9 = B false ∧ E 10 = .ptr 62914720 4 0 0 ∧ E 11 = I v ∧ σ 62914624 = some ⟨51, 4, [.agg [I h, CL l, Str s, RPL p]]⟩ ∧ σ 62914688 = some ⟨51, 4, [.agg [I 0, .v (.slice none 0 0), Str ByteArray.empty, .v (.slice none 0 0)]]⟩ ∧ σ 62914816 = some ⟨30, 5, l.map CH⟩ ∧ σ 62914720 = some ⟨51, 4, [.agg [I h, .own 62914816 5 0 l.length, Str s, .own 62914721 2 0 v]]⟩ ∧ σ 62914721 = some ⟨35, 2, L v⟩ ∧ σ 62914625 = Z v) 6 ⟨0, by omega, ?_⟩ ?_
    · simp -implicitDefEqProofs (disch := omega) only [go_sem, e1, e2, e3, e4, e8, e9, s4, s8, sX, hZk, g0, g1, q9]
      simp [hL0, and_self]
    clear e1 e2 e3 e4 e8 e9 s4 s8 sX g0 g1 f0 q0 q1 q3 q4 q6 q7 q8 q9 E σ
    rintro n E σ ⟨v, hv, e1, e2, e3, e4, e8, e9, e10, e11, s4, s8, sC, s10, sP, sX⟩
    simp -implicitDefEqProofs (disch := omega) only [go_sem, e1, e2, e3, e4, e8, e9, e10, e11, s4, s8, sC, s10, sP, sX, hZk]
    refine branch_mk (fun hc => ?_) (fun hc => ?_)
    · have hg := sml_le hpt (v := v) (by omega)
      have hg8 := hg.1
      have hgt : (gd p v).1.take 8 = (gd p v).1 := List.take_of_length_le (by omega)
      have hlv := hLl v (by omega)
      have htk : (L v).take v = L v := List.take_of_length_le (by omega)
      have hLne' := hLne v (by omega)
      have hLeq' := hLeq
      have hLP : AV.namesL (isId 62914721) (L v ++ [.agg [.own 62915072 1 0 8, .v (.string (gd p v).2)]]) = false := namesL_snoc _ _ _ (hLn v _ rfl) rfl
      simp -implicitDefEqProofs (disch := omega) only [go_sem, e1, e2, e3, e4, e8, e9, e10, e11, s4, s8, sC, s10, sP, sX, hZk]
      refine region_J (Plain.mono) (fun D E σ => E 1 = I how ∧ E 2 = I x ∧ E 3 = I y ∧ E 4 = .ptr 62914624 4 0 0 ∧ E 8 = .ptr 62914688 4 0 0 ∧ E 9 = B false ∧ E 10 = .ptr 62914720 4 0 0 ∧ E 11 = I v ∧ σ 62914624 = some ⟨51, 4, [.agg [I h, CL l, Str s, RPL p]]⟩ ∧ σ 62914688 = some ⟨51, 4, [.agg [I 0, .v (.slice none 0 0), Str ByteArray.empty, .v (.slice none 0 0)]]⟩ ∧ σ 62914816 = some ⟨30, 5, l.map CH⟩ ∧ σ 62914625 = Z v ∧ (D 20 = true → D 18 = true) ∧ (D 18 = true → D 17 = true) ∧ (D 17 = true → D 16 = true) ∧ (D 16 = true → D 9 = true) ∧ (D 9 = true → D 2 = true) ∧ (D 18 = true → D 1 = true) ∧ (D 2 = true → D 9 = false → σ 62915072 = some ⟨3, 1, []⟩) ∧ (D 2 = true → D 9 = false → E 32 = .own 62915072 1 0 0) ∧ (D 9 = true → σ 62915072 = some ⟨3, 1, (gd p v).1.map I⟩) ∧ (D 9 = true → E 39 = .own 62915072 1 0 8) ∧ (D 17 = true → σ 62915312 = some ⟨35, 2, [.agg [.own 62915072 1 0 8, Str (gd p v).2]]⟩) ∧ (D 17 = true → E 47 = .own 62915312 2 0 1) ∧ (D 1 = false → σ 62914721 = some ⟨35, 2, L v⟩) ∧ (D 1 = true → D 18 = false → σ 62914721 = some ⟨35, 2, L v⟩) ∧ (D 1 = true → D 18 = false → E 31 = .own 62914721 2 0 v) ∧ (D 18 = true → σ 62914721 = some ⟨35, 2, L v ++ [.agg [.own 62915072 1 0 8, Str (gd p v).2]]⟩) ∧ (D 18 = true → E 48 = .own 62914721 2 0 (v + 1)) ∧ (D 18 = false → σ 62914720 = some ⟨51, 4, [.agg [I h, .own 62914816 5 0 l.length, Str s, .own 62914721 2 0 v]]⟩) ∧ (D 18 = true → D 20 = false → σ 62914720 = some ⟨51, 4, [.agg [I h, .own 62914816 5 0 l.length, Str s, .any]]⟩) ∧ (D 20 = true → σ 62914720 = some ⟨51, 4, [.agg [I h, .own 62914816 5 0 l.length, Str s, .own 62914721 2 0 (v + 1)]]⟩) ∧ (D 0 = true → E 30 = .ptr 62914720 4 0 3) ∧ (D 3 = true → E 33 = .ptr 62914624 4 0 3) ∧ (D 4 = true → E 34 = RPL p) ∧ (D 5 = true → E 35 = I v) ∧ (D 6 = true → E 36 = .pt (RP (gd p v)) 0) ∧ (D 7 = true → E 37 = .pt (RP (gd p v)) 0) ∧ (D 8 = true → E 38 = SL (gd p v).1) ∧ (D 10 = true → E 40 = .ptr 62914624 4 0 3) ∧ (D 11 = true → E 41 = RPL p) ∧ (D 12 = true → E 42 = I v) ∧ (D 13 = true → E 43 = .pt (RP (gd p v)) 0) ∧ (D 14 = true → E 44 = .pt (RP (gd p v)) 1) ∧ (D 15 = true → E 45 = Str (gd p v).2) ∧ (D 16 = true → E 46 = .agg [.own 62915072 1 0 8, Str (gd p v).2]) ∧ (D 19 = true → E 49 = .ptr 62914720 4 0 3)) ?_ ?_ ?_
      · simp -implicitDefEqProofs (disch := omega) only [go_sem, hlv, htk, hLn v, hLP, hZk, hg8, hgt, and_self]
        simp [e1, e2, e3, e4, e8, e9, e10, e11, s4, s8, sC, s10, sP, sX]
      · simp only [stepsJ, and_true]
        refine ⟨?_, ?_, ?_, ?_, ?_, ?_, ?_, ?_, ?_, ?_, ?_, ?_, ?_, ?_, ?_, ?_, ?_, ?_, ?_, ?_, ?_⟩
        · rintro D hD hd E σ ⟨e1, e2, e3, e4, e8, e9, e10, e11, s4, s8, sC, sX, c20_18, c18_17, c17_16, c16_9, c9_2, c18_1, m0_0, n0_0, m0_1, n0_1, m1_0, n1_0, m2_0, m2_1, n2_1, m2_2, n2_2, m3_0, m3_1, m3_2, j0, j3, j4, j5, j6, j7, j8, j10, j11, j12, j13, j14, j15, j16, j19⟩
          have hD : D 0 = false := hD
          simp -implicitDefEqProofs (disch := omega) only [go_sem, e1, e2, e3, e4, e8, e9, e10, e11, s4, s8, sC, sX, hlv, htk, hLn v, hLP, hZk, hg8, hgt, and_self]
          repeat' apply And.intro
          all_goals first | assumption | (intro _; assumption) | trivial | (simp -implicitDefEqProofs (contextual := true) (disch := first | assumption | omega) only [go_sem, m0_1, n0_1, m1_0, n1_0, m2_0, m2_2, n2_2, m3_0, m3_2, j0, j3, j4, j5, j6, j7, j8, j10, j11, j12, j13, j14, j15, j16, j19, m0_0, n0_0, m2_1, n2_1, m3_1, implies_true, forall_const, false_implies, true_implies]; done) | (intro h; exact killS_of (m2_0 h) (hLk v _ rfl)) | (intro h1 h2; exact killS_of (m2_1 h1 h2) (hLk v _ rfl)) | (intros; contradiction) | trace_state
        · rintro D hD hd E σ ⟨e1, e2, e3, e4, e8, e9, e10, e11, s4, s8, sC, sX, c20_18, c18_17, c17_16, c16_9, c9_2, c18_1, m0_0, n0_0, m0_1, n0_1, m1_0, n1_0, m2_0, m2_1, n2_1, m2_2, n2_2, m3_0, m3_1, m3_2, j0, j3, j4, j5, j6, j7, j8, j10, j11, j12, j13, j14, j15, j16, j19⟩
          have hD : D 1 = false := hD
          have d0 : D 0 = true := hd ⟨0, .data⟩ (by simp) rfl
          have q0 := j0 d0
          have g2 := m2_0 hD
          have r3 : D 18 = false := by
            cases e : D 18 with
            | false => rfl
            | true => rw [(c18_1 e)] at hD; cases hD
          have g3 := m3_0 r3
          simp -implicitDefEqProofs (disch := omega) only [go_sem, e1, e2, e3, e4, e8, e9, e10, e11, s4, s8, sC, sX, q0, g2, g3, hlv, htk, hLn v, hLP, hZk, hg8, hgt, and_self]
          repeat' apply And.intro
          all_goals first | assumption | (intro _; assumption) | trivial | (intro h; intros; have hh := (c18_1 h); rw [hD] at hh; cases hh; done) | (intro h; intros; have hh := (c18_1 (c20_18 h)); rw [hD] at hh; cases hh; done) | (simp -implicitDefEqProofs (contextual := true) (disch := first | assumption | omega) only [go_sem, m0_1, n0_1, m1_0, n1_0, m2_0, m2_2, n2_2, m3_0, m3_2, j0, j3, j4, j5, j6, j7, j8, j10, j11, j12, j13, j14, j15, j16, j19, m0_0, n0_0, m2_1, n2_1, m3_1, implies_true, forall_const, false_implies, true_implies]; done) | (intro h; exact killS_of (m2_0 h) (hLk v _ rfl)) | (intro h1 h2; exact killS_of (m2_1 h1 h2) (hLk v _ rfl)) | (intros; contradiction) | trace_state
        · rintro D hD hd E σ ⟨e1, e2, e3, e4, e8, e9, e10, e11, s4, s8, sC, sX, c20_18, c18_17, c17_16, c16_9, c9_2, c18_1, m0_0, n0_0, m0_1, n0_1, m1_0, n1_0, m2_0, m2_1, n2_1, m2_2, n2_2, m3_0, m3_1, m3_2, j0, j3, j4, j5, j6, j7, j8, j10, j11, j12, j13, j14, j15, j16, j19⟩
          have hD : D 2 = false := hD
          simp -implicitDefEqProofs (disch := omega) only [go_sem, e1, e2, e3, e4, e8, e9, e10, e11, s4, s8, sC, sX, hlv, htk, hLn v, hLP, hZk, hg8, hgt, and_self]
          repeat' apply And.intro
          all_goals first | assumption | (intro _; assumption) | trivial | (intro h; intros; have hh := (c9_2 h); rw [hD] at hh; cases hh; done) | (intro h; intros; have hh := (c9_2 (c16_9 h)); rw [hD] at hh; cases hh; done) | (intro h; intros; have hh := (c9_2 (c16_9 (c17_16 h))); rw [hD] at hh; cases hh; done) | (intro h; intros; have hh := (c9_2 (c16_9 (c17_16 (c18_17 h)))); rw [hD] at hh; cases hh; done) | (intro h; intros; have hh := (c9_2 (c16_9 (c17_16 (c18_17 (c20_18 h))))); rw [hD] at hh; cases hh; done) | (simp -implicitDefEqProofs (contextual := true) (disch := first | assumption | omega) only [go_sem, m0_1, n0_1, m1_0, n1_0, m2_0, m2_2, n2_2, m3_0, m3_2, j0, j3, j4, j5, j6, j7, j8, j10, j11, j12, j13, j14, j15, j16, j19, m0_0, n0_0, m2_1, n2_1, m3_1, implies_true, forall_const, false_implies, true_implies]; done) | (intro h; exact killS_of (m2_0 h) (hLk v _ rfl)) | (intro h1 h2; exact killS_of (m2_1 h1 h2) (hLk v _ rfl)) | (intros; contradiction) | trace_state
        · rintro D hD hd E σ ⟨e1, e2, e3, e4, e8, e9, e10, e11, s4, s8, sC, sX, c20_18, c18_17, c17_16, c16_9, c9_2, c18_1, m0_0, n0_0, m0_1, n0_1, m1_0, n1_0, m2_0, m2_1, n2_1, m2_2, n2_2, m3_0, m3_1, m3_2, j0, j3, j4, j5, j6, j7, j8, j10, j11, j12, j13, j14, j15, j16, j19⟩
          have hD : D 3 = false := hD
          simp -implicitDefEqProofs (disch := omega) only [go_sem, e1, e2, e3, e4, e8, e9, e10, e11, s4, s8, sC, sX, hlv, htk, hLn v, hLP, hZk, hg8, hgt, and_self]
          repeat' apply And.intro
          all_goals first | assumption | (intro _; assumption) | trivial | (simp -implicitDefEqProofs (contextual := true) (disch := first | assumption | omega) only [go_sem, m0_1, n0_1, m1_0, n1_0, m2_0, m2_2, n2_2, m3_0, m3_2, j0, j3, j4, j5, j6, j7, j8, j10, j11, j12, j13, j14, j15, j16, j19, m0_0, n0_0, m2_1, n2_1, m3_1, implies_true, forall_const, false_implies, true_implies]; done) | (intro h; exact killS_of (m2_0 h) (hLk v _ rfl)) | (intro h1 h2; exact killS_of (m2_1 h1 h2) (hLk v _ rfl)) | (intros; contradiction) | trace_state
        · rintro D hD hd E σ ⟨e1, e2, e3, e4, e8, e9, e10, e11, s4, s8, sC, sX, c20_18, c18_17, c17_16, c16_9, c9_2, c18_1, m0_0, n0_0, m0_1, n0_1, m1_0, n1_0, m2_0, m2_1, n2_1, m2_2, n2_2, m3_0, m3_1, m3_2, j0, j3, j4, j5, j6, j7, j8, j10, j11, j12, j13, j14, j15, j16, j19⟩
          have hD : D 4 = false := hD
          have d3 : D 3 = true := hd ⟨3, .data⟩ (by simp) rfl
          have q3 := j3 d3
          simp -implicitDefEqProofs (disch := omega) only [go_sem, e1, e2, e3, e4, e8, e9, e10, e11, s4, s8, sC, sX, q3, hlv, htk, hLn v, hLP, hZk, hg8, hgt, and_self]
          repeat' apply And.intro
          all_goals first | assumption | (intro _; assumption) | trivial | (simp -implicitDefEqProofs (contextual := true) (disch := first | assumption | omega) only [go_sem, m0_1, n0_1, m1_0, n1_0, m2_0, m2_2, n2_2, m3_0, m3_2, j0, j3, j4, j5, j6, j7, j8, j10, j11, j12, j13, j14, j15, j16, j19, m0_0, n0_0, m2_1, n2_1, m3_1, implies_true, forall_const, false_implies, true_implies]; done) | (intro h; exact killS_of (m2_0 h) (hLk v _ rfl)) | (intro h1 h2; exact killS_of (m2_1 h1 h2) (hLk v _ rfl)) | (intros; contradiction) | trace_state
        · rintro D hD hd E σ ⟨e1, e2, e3, e4, e8, e9, e10, e11, s4, s8, sC, sX, c20_18, c18_17, c17_16, c16_9, c9_2, c18_1, m0_0, n0_0, m0_1, n0_1, m1_0, n1_0, m2_0, m2_1, n2_1, m2_2, n2_2, m3_0, m3_1, m3_2, j0, j3, j4, j5, j6, j7, j8, j10, j11, j12, j13, j14, j15, j16, j19⟩
          have hD : D 5 = false := hD
          simp -implicitDefEqProofs (disch := omega) only [go_sem, e1, e2, e3, e4, e8, e9, e10, e11, s4, s8, sC, sX, hlv, htk, hLn v, hLP, hZk, hg8, hgt, and_self]
          repeat' apply And.intro
          all_goals first | assumption | (intro _; assumption) | trivial | (simp -implicitDefEqProofs (contextual := true) (disch := first | assumption | omega) only [go_sem, m0_1, n0_1, m1_0, n1_0, m2_0, m2_2, n2_2, m3_0, m3_2, j0, j3, j4, j5, j6, j7, j8, j10, j11, j12, j13, j14, j15, j16, j19, m0_0, n0_0, m2_1, n2_1, m3_1, implies_true, forall_const, false_implies, true_implies]; done) | (intro h; exact killS_of (m2_0 h) (hLk v _ rfl)) | (intro h1 h2; exact killS_of (m2_1 h1 h2) (hLk v _ rfl)) | (intros; contradiction) | trace_state
        · rintro D hD hd E σ ⟨e1, e2, e3, e4, e8, e9, e10, e11, s4, s8, sC, sX, c20_18, c18_17, c17_16, c16_9, c9_2, c18_1, m0_0, n0_0, m0_1, n0_1, m1_0, n1_0, m2_0, m2_1, n2_1, m2_2, n2_2, m3_0, m3_1, m3_2, j0, j3, j4, j5, j6, j7, j8, j10, j11, j12, j13, j14, j15, j16, j19⟩
          have hD : D 6 = false := hD
          have d4 : D 4 = true := hd ⟨4, .data⟩ (by simp) rfl
          have q4 := j4 d4
          have d5 : D 5 = true := hd ⟨5, .data⟩ (by simp) rfl
          have q5 := j5 d5
          simp -implicitDefEqProofs (disch := omega) only [go_sem, e1, e2, e3, e4, e8, e9, e10, e11, s4, s8, sC, sX, q4, q5, hlv, htk, hLn v, hLP, hZk, hg8, hgt, and_self]
          repeat' apply And.intro
          all_goals first | assumption | (intro _; assumption) | trivial | (simp -implicitDefEqProofs (contextual := true) (disch := first | assumption | omega) only [go_sem, m0_1, n0_1, m1_0, n1_0, m2_0, m2_2, n2_2, m3_0, m3_2, j0, j3, j4, j5, j6, j7, j8, j10, j11, j12, j13, j14, j15, j16, j19, m0_0, n0_0, m2_1, n2_1, m3_1, implies_true, forall_const, false_implies, true_implies]; done) | (intro h; exact killS_of (m2_0 h) (hLk v _ rfl)) | (intro h1 h2; exact killS_of (m2_1 h1 h2) (hLk v _ rfl)) | (intros; contradiction) | trace_state
        · rintro D hD hd E σ ⟨e1, e2, e3, e4, e8, e9, e10, e11, s4, s8, sC, sX, c20_18, c18_17, c17_16, c16_9, c9_2, c18_1, m0_0, n0_0, m0_1, n0_1, m1_0, n1_0, m2_0, m2_1, n2_1, m2_2, n2_2, m3_0, m3_1, m3_2, j0, j3, j4, j5, j6, j7, j8, j10, j11, j12, j13, j14, j15, j16, j19⟩
          have hD : D 7 = false := hD
          have d6 : D 6 = true := hd ⟨6, .data⟩ (by simp) rfl
          have q6 := j6 d6
          simp -implicitDefEqProofs (disch := omega) only [go_sem, e1, e2, e3, e4, e8, e9, e10, e11, s4, s8, sC, sX, q6, hlv, htk, hLn v, hLP, hZk, hg8, hgt, and_self]
          repeat' apply And.intro
          all_goals first | assumption | (intro _; assumption) | trivial | (simp -implicitDefEqProofs (contextual := true) (disch := first | assumption | omega) only [go_sem, m0_1, n0_1, m1_0, n1_0, m2_0, m2_2, n2_2, m3_0, m3_2, j0, j3, j4, j5, j6, j7, j8, j10, j11, j12, j13, j14, j15, j16, j19, m0_0, n0_0, m2_1, n2_1, m3_1, implies_true, forall_const, false_implies, true_implies]; done) | (intro h; exact killS_of (m2_0 h) (hLk v _ rfl)) | (intro h1 h2; exact killS_of (m2_1 h1 h2) (hLk v _ rfl)) | (intros; contradiction) | trace_state
        · rintro D hD hd E σ ⟨e1, e2, e3, e4, e8, e9, e10, e11, s4, s8, sC, sX, c20_18, c18_17, c17_16, c16_9, c9_2, c18_1, m0_0, n0_0, m0_1, n0_1, m1_0, n1_0, m2_0, m2_1, n2_1, m2_2, n2_2, m3_0, m3_1, m3_2, j0, j3, j4, j5, j6, j7, j8, j10, j11, j12, j13, j14, j15, j16, j19⟩
          have hD : D 8 = false := hD
          have d7 : D 7 = true := hd ⟨7, .data⟩ (by simp) rfl
          have q7 := j7 d7
          simp -implicitDefEqProofs (disch := omega) only [go_sem, e1, e2, e3, e4, e8, e9, e10, e11, s4, s8, sC, sX, q7, hlv, htk, hLn v, hLP, hZk, hg8, hgt, and_self]
          repeat' apply And.intro
          all_goals first | assumption | (intro _; assumption) | trivial | (simp -implicitDefEqProofs (contextual := true) (disch := first | assumption | omega) only [go_sem, m0_1, n0_1, m1_0, n1_0, m2_0, m2_2, n2_2, m3_0, m3_2, j0, j3, j4, j5, j6, j7, j8, j10, j11, j12, j13, j14, j15, j16, j19, m0_0, n0_0, m2_1, n2_1, m3_1, implies_true, forall_const, false_implies, true_implies]; done) | (intro h; exact killS_of (m2_0 h) (hLk v _ rfl)) | (intro h1 h2; exact killS_of (m2_1 h1 h2) (hLk v _ rfl)) | (intros; contradiction) | trace_state
        · rintro D hD hd E σ ⟨e1, e2, e3, e4, e8, e9, e10, e11, s4, s8, sC, sX, c20_18, c18_17, c17_16, c16_9, c9_2, c18_1, m0_0, n0_0, m0_1, n0_1, m1_0, n1_0, m2_0, m2_1, n2_1, m2_2, n2_2, m3_0, m3_1, m3_2, j0, j3, j4, j5, j6, j7, j8, j10, j11, j12, j13, j14, j15, j16, j19⟩
          have hD : D 9 = false := hD
          have d2 : D 2 = true := hd ⟨2, .data⟩ (by simp) rfl
          have d8 : D 8 = true := hd ⟨8, .data⟩ (by simp) rfl
          have q8 := j8 d8
          have g0 := m0_0 d2 hD
          have f0 := n0_0 d2 hD
          simp -implicitDefEqProofs (disch := omega) only [go_sem, e1, e2, e3, e4, e8, e9, e10, e11, s4, s8, sC, sX, q8, g0, f0, hlv, htk, hLn v, hLP, hZk, hg8, hgt, and_self]
          repeat' apply And.intro
          all_goals first | assumption | (intro _; assumption) | trivial | (intro h; intros; have hh := (c16_9 h); rw [hD] at hh; cases hh; done) | (intro h; intros; have hh := (c16_9 (c17_16 h)); rw [hD] at hh; cases hh; done) | (intro h; intros; have hh := (c16_9 (c17_16 (c18_17 h))); rw [hD] at hh; cases hh; done) | (intro h; intros; have hh := (c16_9 (c17_16 (c18_17 (c20_18 h)))); rw [hD] at hh; cases hh; done) | (simp -implicitDefEqProofs (contextual := true) (disch := first | assumption | omega) only [go_sem, m0_1, n0_1, m1_0, n1_0, m2_0, m2_2, n2_2, m3_0, m3_2, j0, j3, j4, j5, j6, j7, j8, j10, j11, j12, j13, j14, j15, j16, j19, m0_0, n0_0, m2_1, n2_1, m3_1, implies_true, forall_const, false_implies, true_implies]; done) | (intro h; exact killS_of (m2_0 h) (hLk v _ rfl)) | (intro h1 h2; exact killS_of (m2_1 h1 h2) (hLk v _ rfl)) | (intros; contradiction) | trace_state
        · rintro D hD hd E σ ⟨e1, e2, e3, e4, e8, e9, e10, e11, s4, s8, sC, sX, c20_18, c18_17, c17_16, c16_9, c9_2, c18_1, m0_0, n0_0, m0_1, n0_1, m1_0, n1_0, m2_0, m2_1, n2_1, m2_2, n2_2, m3_0, m3_1, m3_2, j0, j3, j4, j5, j6, j7, j8, j10, j11, j12, j13, j14, j15, j16, j19⟩
          have hD : D 10 = false := hD
          simp -implicitDefEqProofs (disch := omega) only [go_sem, e1, e2, e3, e4, e8, e9, e10, e11, s4, s8, sC, sX, hlv, htk, hLn v, hLP, hZk, hg8, hgt, and_self]
          repeat' apply And.intro
          all_goals first | assumption | (intro _; assumption) | trivial | (simp -implicitDefEqProofs (contextual := true) (disch := first | assumption | omega) only [go_sem, m0_1, n0_1, m1_0, n1_0, m2_0, m2_2, n2_2, m3_0, m3_2, j0, j3, j4, j5, j6, j7, j8, j10, j11, j12, j13, j14, j15, j16, j19, m0_0, n0_0, m2_1, n2_1, m3_1, implies_true, forall_const, false_implies, true_implies]; done) | (intro h; exact killS_of (m2_0 h) (hLk v _ rfl)) | (intro h1 h2; exact killS_of (m2_1 h1 h2) (hLk v _ rfl)) | (intros; contradiction) | trace_state
        · rintro D hD hd E σ ⟨e1, e2, e3, e4, e8, e9, e10, e11, s4, s8, sC, sX, c20_18, c18_17, c17_16, c16_9, c9_2, c18_1, m0_0, n0_0, m0_1, n0_1, m1_0, n1_0, m2_0, m2_1, n2_1, m2_2, n2_2, m3_0, m3_1, m3_2, j0, j3, j4, j5, j6, j7, j8, j10, j11, j12, j13, j14, j15, j16, j19⟩
          have hD : D 11 = false := hD
          have d10 : D 10 = true := hd ⟨10, .data⟩ (by simp) rfl
          have q10 := j10 d10
          simp -implicitDefEqProofs (disch := omega) only [go_sem, e1, e2, e3, e4, e8, e9, e10, e11, s4, s8, sC, sX, q10, hlv, htk, hLn v, hLP, hZk, hg8, hgt, and_self]
          repeat' apply And.intro
          all_goals first | assumption | (intro _; assumption) | trivial | (simp -implicitDefEqProofs (contextual := true) (disch := first | assumption | omega) only [go_sem, m0_1, n0_1, m1_0, n1_0, m2_0, m2_2, n2_2, m3_0, m3_2, j0, j3, j4, j5, j6, j7, j8, j10, j11, j12, j13, j14, j15, j16, j19, m0_0, n0_0, m2_1, n2_1, m3_1, implies_true, forall_const, false_implies, true_implies]; done) | (intro h; exact killS_of (m2_0 h) (hLk v _ rfl)) | (intro h1 h2; exact killS_of (m2_1 h1 h2) (hLk v _ rfl)) | (intros; contradiction) | trace_state
        · rintro D hD hd E σ ⟨e1, e2, e3, e4, e8, e9, e10, e11, s4, s8, sC, sX, c20_18, c18_17, c17_16, c16_9, c9_2, c18_1, m0_0, n0_0, m0_1, n0_1, m1_0, n1_0, m2_0, m2_1, n2_1, m2_2, n2_2, m3_0, m3_1, m3_2, j0, j3, j4, j5, j6, j7, j8, j10, j11, j12, j13, j14, j15, j16, j19⟩
          have hD : D 12 = false := hD
          simp -implicitDefEqProofs (disch := omega) only [go_sem, e1, e2, e3, e4, e8, e9, e10, e11, s4, s8, sC, sX, hlv, htk, hLn v, hLP, hZk, hg8, hgt, and_self]
          repeat' apply And.intro
          all_goals first | assumption | (intro _; assumption) | trivial | (simp -implicitDefEqProofs (contextual := true) (disch := first | assumption | omega) only [go_sem, m0_1, n0_1, m1_0, n1_0, m2_0, m2_2, n2_2, m3_0, m3_2, j0, j3, j4, j5, j6, j7, j8, j10, j11, j12, j13, j14, j15, j16, j19, m0_0, n0_0, m2_1, n2_1, m3_1, implies_true, forall_const, false_implies, true_implies]; done) | (intro h; exact killS_of (m2_0 h) (hLk v _ rfl)) | (intro h1 h2; exact killS_of (m2_1 h1 h2) (hLk v _ rfl)) | (intros; contradiction) | trace_state
        · rintro D hD hd E σ ⟨e1, e2, e3, e4, e8, e9, e10, e11, s4, s8, sC, sX, c20_18, c18_17, c17_16, c16_9, c9_2, c18_1, m0_0, n0_0, m0_1, n0_1, m1_0, n1_0, m2_0, m2_1, n2_1, m2_2, n2_2, m3_0, m3_1, m3_2, j0, j3, j4, j5, j6, j7, j8, j10, j11, j12, j13, j14, j15, j16, j19⟩
          have hD : D 13 = false := hD
          have d11 : D 11 = true := hd ⟨11, .data⟩ (by simp) rfl
          have q11 := j11 d11
          have d12 : D 12 = true := hd ⟨12, .data⟩ (by simp) rfl
          have q12 := j12 d12
          simp -implicitDefEqProofs (disch := omega) only [go_sem, e1, e2, e3, e4, e8, e9, e10, e11, s4, s8, sC, sX, q11, q12, hlv, htk, hLn v, hLP, hZk, hg8, hgt, and_self]
          repeat' apply And.intro
          all_goals first | assumption | (intro _; assumption) | trivial | (simp -implicitDefEqProofs (contextual := true) (disch := first | assumption | omega) only [go_sem, m0_1, n0_1, m1_0, n1_0, m2_0, m2_2, n2_2, m3_0, m3_2, j0, j3, j4, j5, j6, j7, j8, j10, j11, j12, j13, j14, j15, j16, j19, m0_0, n0_0, m2_1, n2_1, m3_1, implies_true, forall_const, false_implies, true_implies]; done) | (intro h; exact killS_of (m2_0 h) (hLk v _ rfl)) | (intro h1 h2; exact killS_of (m2_1 h1 h2) (hLk v _ rfl)) | (intros; contradiction) | trace_state
        · rintro D hD hd E σ ⟨e1, e2, e3, e4, e8, e9, e10, e11, s4, s8, sC, sX, c20_18, c18_17, c17_16, c16_9, c9_2, c18_1, m0_0, n0_0, m0_1, n0_1, m1_0, n1_0, m2_0, m2_1, n2_1, m2_2, n2_2, m3_0, m3_1, m3_2, j0, j3, j4, j5, j6, j7, j8, j10, j11, j12, j13, j14, j15, j16, j19⟩
          have hD : D 14 = false := hD
          have d13 : D 13 = true := hd ⟨13, .data⟩ (by simp) rfl
          have q13 := j13 d13
          simp -implicitDefEqProofs (disch := omega) only [go_sem, e1, e2, e3, e4, e8, e9, e10, e11, s4, s8, sC, sX, q13, hlv, htk, hLn v, hLP, hZk, hg8, hgt, and_self]
          repeat' apply And.intro
          all_goals first | assumption | (intro _; assumption) | trivial | (simp -implicitDefEqProofs (contextual := true) (disch := first | assumption | omega) only [go_sem, m0_1, n0_1, m1_0, n1_0, m2_0, m2_2, n2_2, m3_0, m3_2, j0, j3, j4, j5, j6, j7, j8, j10, j11, j12, j13, j14, j15, j16, j19, m0_0, n0_0, m2_1, n2_1, m3_1, implies_true, forall_const, false_implies, true_implies]; done) | (intro h; exact killS_of (m2_0 h) (hLk v _ rfl)) | (intro h1 h2; exact killS_of (m2_1 h1 h2) (hLk v _ rfl)) | (intros; contradiction) | trace_state
        · rintro D hD hd E σ ⟨e1, e2, e3, e4, e8, e9, e10, e11, s4, s8, sC, sX, c20_18, c18_17, c17_16, c16_9, c9_2, c18_1, m0_0, n0_0, m0_1, n0_1, m1_0, n1_0, m2_0, m2_1, n2_1, m2_2, n2_2, m3_0, m3_1, m3_2, j0, j3, j4, j5, j6, j7, j8, j10, j11, j12, j13, j14, j15, j16, j19⟩
          have hD : D 15 = false := hD
          have d14 : D 14 = true := hd ⟨14, .data⟩ (by simp) rfl
          have q14 := j14 d14
          simp -implicitDefEqProofs (disch := omega) only [go_sem, e1, e2, e3, e4, e8, e9, e10, e11, s4, s8, sC, sX, q14, hlv, htk, hLn v, hLP, hZk, hg8, hgt, and_self]
          repeat' apply And.intro
          all_goals first | assumption | (intro _; assumption) | trivial | (simp -implicitDefEqProofs (contextual := true) (disch := first | assumption | omega) only [go_sem, m0_1, n0_1, m1_0, n1_0, m2_0, m2_2, n2_2, m3_0, m3_2, j0, j3, j4, j5, j6, j7, j8, j10, j11, j12, j13, j14, j15, j16, j19, m0_0, n0_0, m2_1, n2_1, m3_1, implies_true, forall_const, false_implies, true_implies]; done) | (intro h; exact killS_of (m2_0 h) (hLk v _ rfl)) | (intro h1 h2; exact killS_of (m2_1 h1 h2) (hLk v _ rfl)) | (intros; contradiction) | trace_state
        · rintro D hD hd E σ ⟨e1, e2, e3, e4, e8, e9, e10, e11, s4, s8, sC, sX, c20_18, c18_17, c17_16, c16_9, c9_2, c18_1, m0_0, n0_0, m0_1, n0_1, m1_0, n1_0, m2_0, m2_1, n2_1, m2_2, n2_2, m3_0, m3_1, m3_2, j0, j3, j4, j5, j6, j7, j8, j10, j11, j12, j13, j14, j15, j16, j19⟩
          have hD : D 16 = false := hD
          have d9 : D 9 = true := hd ⟨9, .data⟩ (by simp) rfl
          have d15 : D 15 = true := hd ⟨15, .data⟩ (by simp) rfl
          have q15 := j15 d15
          have g0 := m0_1 d9
          have f0 := n0_1 d9
          simp -implicitDefEqProofs (disch := omega) only [go_sem, e1, e2, e3, e4, e8, e9, e10, e11, s4, s8, sC, sX, q15, g0, f0, hlv, htk, hLn v, hLP, hZk, hg8, hgt, and_self]
          repeat' apply And.intro
          all_goals first | assumption | (intro _; assumption) | trivial | (intro h; intros; have hh := (c17_16 h); rw [hD] at hh; cases hh; done) | (intro h; intros; have hh := (c17_16 (c18_17 h)); rw [hD] at hh; cases hh; done) | (intro h; intros; have hh := (c17_16 (c18_17 (c20_18 h))); rw [hD] at hh; cases hh; done) | (intro _ h; rw [d9] at h; cases h; done) | (intro h; rw [d9] at h; cases h; done) | (simp -implicitDefEqProofs (contextual := true) (disch := first | assumption | omega) only [go_sem, m0_1, n0_1, m1_0, n1_0, m2_0, m2_2, n2_2, m3_0, m3_2, j0, j3, j4, j5, j6, j7, j8, j10, j11, j12, j13, j14, j15, j16, j19, m0_0, n0_0, m2_1, n2_1, m3_1, implies_true, forall_const, false_implies, true_implies]; done) | (intro h; exact killS_of (m2_0 h) (hLk v _ rfl)) | (intro h1 h2; exact killS_of (m2_1 h1 h2) (hLk v _ rfl)) | (intros; contradiction) | trace_state
        · rintro D hD hd E σ ⟨e1, e2, e3, e4, e8, e9, e10, e11, s4, s8, sC, sX, c20_18, c18_17, c17_16, c16_9, c9_2, c18_1, m0_0, n0_0, m0_1, n0_1, m1_0, n1_0, m2_0, m2_1, n2_1, m2_2, n2_2, m3_0, m3_1, m3_2, j0, j3, j4, j5, j6, j7, j8, j10, j11, j12, j13, j14, j15, j16, j19⟩
          have hD : D 17 = false := hD
          have d16 : D 16 = true := hd ⟨16, .data⟩ (by simp) rfl
          have q16 := j16 d16
          have g0 := m0_1 (c16_9 d16)
          have f0 := n0_1 (c16_9 d16)
          simp -implicitDefEqProofs (disch := omega) only [go_sem, e1, e2, e3, e4, e8, e9, e10, e11, s4, s8, sC, sX, q16, g0, f0, hlv, htk, hLn v, hLP, hZk, hg8, hgt, and_self]
          repeat' apply And.intro
          all_goals first | assumption | (intro _; assumption) | trivial | (intro h; intros; have hh := (c18_17 h); rw [hD] at hh; cases hh; done) | (intro h; intros; have hh := (c18_17 (c20_18 h)); rw [hD] at hh; cases hh; done) | (intro _ h; rw [(c16_9 d16)] at h; cases h; done) | (intro h; rw [(c16_9 d16)] at h; cases h; done) | (simp -implicitDefEqProofs (contextual := true) (disch := first | assumption | omega) only [go_sem, m0_1, n0_1, m1_0, n1_0, m2_0, m2_2, n2_2, m3_0, m3_2, j0, j3, j4, j5, j6, j7, j8, j10, j11, j12, j13, j14, j15, j16, j19, m0_0, n0_0, m2_1, n2_1, m3_1, implies_true, forall_const, false_implies, true_implies]; done) | (intro h; exact killS_of (m2_0 h) (hLk v _ rfl)) | (intro h1 h2; exact killS_of (m2_1 h1 h2) (hLk v _ rfl)) | (intros; contradiction) | trace_state
        · rintro D hD hd E σ ⟨e1, e2, e3, e4, e8, e9, e10, e11, s4, s8, sC, sX, c20_18, c18_17, c17_16, c16_9, c9_2, c18_1, m0_0, n0_0, m0_1, n0_1, m1_0, n1_0, m2_0, m2_1, n2_1, m2_2, n2_2, m3_0, m3_1, m3_2, j0, j3, j4, j5, j6, j7, j8, j10, j11, j12, j13, j14, j15, j16, j19⟩
          have hD : D 18 = false := hD
          have d1 : D 1 = true := hd ⟨1, .data⟩ (by simp) rfl
          have d17 : D 17 = true := hd ⟨17, .data⟩ (by simp) rfl
          have g1 := m1_0 d17
          have f1 := n1_0 d17
          have g2 := m2_1 d1 hD
          have f2 := n2_1 d1 hD
          have g3 := m3_0 hD
          simp -implicitDefEqProofs (disch := omega) only [go_sem, e1, e2, e3, e4, e8, e9, e10, e11, s4, s8, sC, sX, g1, f1, g2, f2, g3, hlv, htk, hLn v, hLP, hZk, hg8, hgt, and_self]
          repeat' apply And.intro
          all_goals first | assumption | (intro _; assumption) | trivial | (intro h; intros; have hh := (c20_18 h); rw [hD] at hh; cases hh; done) | (intro _ h; rw [(c16_9 (c17_16 d17))] at h; cases h; done) | (intro h; rw [(c16_9 (c17_16 d17))] at h; cases h; done) | (intro _ h; rw [d1] at h; cases h; done) | (intro h; rw [d1] at h; cases h; done) | (simp -implicitDefEqProofs (contextual := true) (disch := first | assumption | omega) only [go_sem, m0_1, n0_1, m1_0, n1_0, m2_0, m2_2, n2_2, m3_0, m3_2, j0, j3, j4, j5, j6, j7, j8, j10, j11, j12, j13, j14, j15, j16, j19, m0_0, n0_0, m2_1, n2_1, m3_1, implies_true, forall_const, false_implies, true_implies]; done) | (intro h; exact killS_of (m2_0 h) (hLk v _ rfl)) | (intro h1 h2; exact killS_of (m2_1 h1 h2) (hLk v _ rfl)) | (intros; contradiction) | trace_state
        · rintro D hD hd E σ ⟨e1, e2, e3, e4, e8, e9, e10, e11, s4, s8, sC, sX, c20_18, c18_17, c17_16, c16_9, c9_2, c18_1, m0_0, n0_0, m0_1, n0_1, m1_0, n1_0, m2_0, m2_1, n2_1, m2_2, n2_2, m3_0, m3_1, m3_2, j0, j3, j4, j5, j6, j7, j8, j10, j11, j12, j13, j14, j15, j16, j19⟩
          have hD : D 19 = false := hD
          simp -implicitDefEqProofs (disch := omega) only [go_sem, e1, e2, e3, e4, e8, e9, e10, e11, s4, s8, sC, sX, hlv, htk, hLn v, hLP, hZk, hg8, hgt, and_self]
          repeat' apply And.intro
          all_goals first | assumption | (intro _; assumption) | trivial | (simp -implicitDefEqProofs (contextual := true) (disch := first | assumption | omega) only [go_sem, m0_1, n0_1, m1_0, n1_0, m2_0, m2_2, n2_2, m3_0, m3_2, j0, j3, j4, j5, j6, j7, j8, j10, j11, j12, j13, j14, j15, j16, j19, m0_0, n0_0, m2_1, n2_1, m3_1, implies_true, forall_const, false_implies, true_implies]; done) | (intro h; exact killS_of (m2_0 h) (hLk v _ rfl)) | (intro h1 h2; exact killS_of (m2_1 h1 h2) (hLk v _ rfl)) | (intros; contradiction) | trace_state
        · rintro D hD hd E σ ⟨e1, e2, e3, e4, e8, e9, e10, e11, s4, s8, sC, sX, c20_18, c18_17, c17_16, c16_9, c9_2, c18_1, m0_0, n0_0, m0_1, n0_1, m1_0, n1_0, m2_0, m2_1, n2_1, m2_2, n2_2, m3_0, m3_1, m3_2, j0, j3, j4, j5, j6, j7, j8, j10, j11, j12, j13, j14, j15, j16, j19⟩
          have hD : D 20 = false := hD
          have d18 : D 18 = true := hd ⟨18, .data⟩ (by simp) rfl
          have d19 : D 19 = true := hd ⟨19, .data⟩ (by simp) rfl
          have q19 := j19 d19
          have g2 := m2_2 d18
          have f2 := n2_2 d18
          have g3 := m3_1 d18 hD
          simp -implicitDefEqProofs (disch := omega) only [go_sem, e1, e2, e3, e4, e8, e9, e10, e11, s4, s8, sC, sX, q19, g2, f2, g3, hlv, htk, hLn v, hLP, hZk, hg8, hgt, and_self]
          repeat' apply And.intro
          all_goals first | assumption | (intro _; assumption) | trivial | (intro _ h; rw [(c16_9 (c17_16 (c18_17 d18)))] at h; cases h; done) | (intro h; rw [(c16_9 (c17_16 (c18_17 d18)))] at h; cases h; done) | (intro _ h; rw [(c18_1 d18)] at h; cases h; done) | (intro h; rw [(c18_1 d18)] at h; cases h; done) | (intro _ h; rw [d18] at h; cases h; done) | (intro h; rw [d18] at h; cases h; done) | (intro _ h; rw [d18] at h; cases h; done) | (intro h; rw [d18] at h; cases h; done) | (simp -implicitDefEqProofs (contextual := true) (disch := first | assumption | omega) only [go_sem, m0_1, n0_1, m1_0, n1_0, m2_0, m2_2, n2_2, m3_0, m3_2, j0, j3, j4, j5, j6, j7, j8, j10, j11, j12, j13, j14, j15, j16, j19, m0_0, n0_0, m2_1, n2_1, m3_1, implies_true, forall_const, false_implies, true_implies]; done) | (intro h; exact killS_of (m2_0 h) (hLk v _ rfl)) | (intro h1 h2; exact killS_of (m2_1 h1 h2) (hLk v _ rfl)) | (intros; contradiction) | trace_state
      · rintro D E σ hD ⟨e1, e2, e3, e4, e8, e9, e10, e11, s4, s8, sC, sX, c20_18, c18_17, c17_16, c16_9, c9_2, c18_1, m0_0, n0_0, m0_1, n0_1, m1_0, n1_0, m2_0, m2_1, n2_1, m2_2, n2_2, m3_0, m3_1, m3_2, j0, j3, j4, j5, j6, j7, j8, j10, j11, j12, j13, j14, j15, j16, j19⟩
        have g0 := m0_1 (hD 9 (by decide))
        have f0 := n0_1 (hD 9 (by decide))
        have g1 := m1_0 (hD 17 (by decide))
        have f1 := n1_0 (hD 17 (by decide))
        have g2 := m2_2 (hD 18 (by decide))
        have f2 := n2_2 (hD 18 (by decide))
        have g3 := m3_2 (hD 20 (by decide))
        have q0 := j0 (hD 0 (by decide))
        have q3 := j3 (hD 3 (by decide))
        have q4 := j4 (hD 4 (by decide))
        have q5 := j5 (hD 5 (by decide))
        have q6 := j6 (hD 6 (by decide))
        have q7 := j7 (hD 7 (by decide))
        have q8 := j8 (hD 8 (by decide))
        have q10 := j10 (hD 10 (by decide))
        have q11 := j11 (hD 11 (by decide))
        have q12 := j12 (hD 12 (by decide))
        have q13 := j13 (hD 13 (by decide))
        have q14 := j14 (hD 14 (by decide))
        have q15 := j15 (hD 15 (by decide))
        have q16 := j16 (hD 16 (by decide))
        have q19 := j19 (hD 19 (by decide))
        clear c20_18 c18_17 c17_16 c16_9 c9_2 c18_1 m0_0 n0_0 m0_1 n0_1 m1_0 n1_0 m2_0 m2_1 n2_1 m2_2 n2_2 m3_0 m3_1 m3_2 j0 j3 j4 j5 j6 j7 j8 j10 j11 j12 j13 j14 j15 j16 j19 hD
        by_cases hvj : v = j
        · subst hvj
          refine rn_sem 62915072 62914625 ?_
          refine reg_mk Plain.mono ?_
          simp -implicitDefEqProofs (disch := omega) only [go_sem, e1, e2, e3, e4, e8, e9, e10, e11, s4, s8, sC, sX, hZk, hZf, hLeq', g0, g2, g3]
          refine againQ_mk (n - 1) (by omega) ⟨v + 1, by omega, ?_⟩
          simp -implicitDefEqProofs (disch := omega) only [go_sem, e1, e2, e3, e4, e8, e9, e10, e11, s4, s8, sC, sX, hZk, hZf, hLeq', hZeq, g0, g2, g3]
          simp
        · refine freeze_reg Plain.mono [62915072] ?_
          have hnam : AV.namesL (notI (notI (inI [62915072]))) (L v ++ [.agg [.own 62915072 1 0 8, .v (.string (gd p v).2)]]) = true := namesL_last _ _ _ (by rfl)
          have hLf' : ∀ r σ, (L v).map (frzE (notI (inI [62915072])) r σ) = L v := fun r σ => hLf v _ r σ (by rfl)
          have hLne2 := hLne' hvj
          have hZn := hZne v hvj
          simp -implicitDefEqProofs (disch := omega) only [go_sem, e1, e2, e3, e4, e8, e9, e10, e11, s4, s8, sC, sX, hZk, hZf, hLf', hnam, hLne2, g0, g2, g3]
          refine againQ_mk (n - 1) (by omega) ⟨v + 1, by omega, ?_⟩
          simp -implicitDefEqProofs (disch := omega) only [go_sem, e1, e2, e3, e4, e8, e9, e10, e11, s4, s8, sC, sX, hZk, hZf, hLf', hLne2, hnam, hg8, hgt, List.map_append, List.map_cons, List.map_nil, g0, g2, g3]
          exact ⟨by simp, hZn⟩
    · obtain rfl : v = 6 := by omega
      simp -implicitDefEqProofs (disch := omega) only [go_sem, e1, e2, e3, e4, e8, e9, e10, e11, s4, s8, sC, s10, sP, sX, hZk]
      refine callC_at pk ?_
      simp -implicitDefEqProofs (disch := omega) only [go_sem, e1, e2, e3, e4, e8, e9, e10, e11, s4, s8, sC, s10, sP, sX, hZk, hLo, hLi]
      refine branch_join (fun E σ => E 65 = B (decide (k = 0 ∨ k = 1)) ∧ E 51 = I k ∧ E 1 = I how ∧ E 2 = I x ∧ E 3 = I y ∧ E 4 = .ptr 62914624 4 0 0 ∧ E 8 = .ptr 62914688 4 0 0 ∧ E 9 = B false ∧ E 10 = .ptr 62914720 4 0 0 ∧ E 11 = I (6 : Nat) ∧ σ 62914624 = some ⟨51, 4, [.agg [I h, CL l, Str s, RPL p]]⟩ ∧ σ 62914688 = some ⟨51, 4, [.agg [I 0, .v (.slice none 0 0), Str ByteArray.empty, .v (.slice none 0 0)]]⟩ ∧ σ 62914816 = some ⟨30, 5, l.map CH⟩ ∧ σ 62914720 = some ⟨51, 4, [.agg [I h, .own 62914816 5 0 l.length, Str s, .own 62914721 2 0 6]]⟩ ∧ σ 62914721 = some ⟨35, 2, L 6⟩ ∧ σ 62914625 = Z 6) (fun h0 => ?_) (fun h0 => ?_) ?_
      · simp -implicitDefEqProofs (disch := omega) only [go_sem, e1, e2, e3, e4, e8, e9, e10, e11, s4, s8, sC, s10, sP, sX, h0, hZk, hLo, hLi]
        try simp
      · simp -implicitDefEqProofs (disch := omega) only [go_sem, e1, e2, e3, e4, e8, e9, e10, e11, s4, s8, sC, s10, sP, sX, h0, hZk, hLo, hLi]
        try (by_cases h1 : k = 1 <;> simp [h1])
      clear e1 e2 e3 e4 e8 e9 e10 e11 s4 s8 sC s10 sP sX hc E σ
      rintro E σ ⟨e65, e51, e1, e2, e3, e4, e8, e9, e10, e11, s4, s8, sC, s10, sP, sX⟩
      simp -implicitDefEqProofs (disch := omega) only [go_sem, e1, e2, e3, e4, e8, e9, e10, e11, s4, s8, sC, s10, sP, sX, e65, e51, hZk, hLo, hLi]
      have hpl : ∀ t ∈ p, t.1.length ≤ 100 := fun t ht => by have := (hpt t ht).1; omega
      have hLq : k ≠ 4 → L 6 = p.map RP := fun hk4 => by
        have hj4 : j = 6 := by rw [hj, if_neg hk4]
        rw [hL]; simp only; rw [lsR_ge (by rw [List.length_take]; omega), List.take_of_length_le (by omega)]
      refine branch_nq (fun E σ => E 4 = .ptr 62914624 4 0 0 ∧ E 8 = .ptr 62914688 4 0 0 ∧ E 9 = B false ∧ E 10 = .ptr 62914720 4 0 0 ∧ σ 62914624 = some ⟨51, 4, [.agg [I h, CL l, Str s, RPL p]]⟩ ∧ σ 62914688 = some ⟨51, 4, [.agg [I 0, .v (.slice none 0 0), Str ByteArray.empty, .v (.slice none 0 0)]]⟩ ∧ ∃ (ll : List Ch) (pv : List AV) (pp : List Tot), σ 62914816 = some ⟨30, 5, ll.map CH⟩ ∧ σ 62914720 = some ⟨51, 4, [.agg [I b.h, .own 62914816 5 0 b.l.length, Str b.s, .own 62914721 2 0 b.p.length]]⟩ ∧ σ 62914721 = some ⟨35, 2, pv⟩ ∧ ll.take b.l.length = b.l ∧ b.l.length ≤ 200 ∧ pp.take b.p.length = b.p ∧ (b.p.length ≤ 100 ∧ ∀ t ∈ b.p, t.1.length ≤ 100) ∧ PathFrz 62914625 (σ 62914625) pv pp) (fun h01 => ?_) (fun h01 => ?_) ?_
      · have hLp := hLq (by omega)
        simp -implicitDefEqProofs (disch := omega) only [go_sem, e1, e2, e3, e4, e8, e9, e10, e11, s4, s8, sC, s10, sP, sX, e65, e51, hZk, hLo, hLi]
        refine branch_mk (fun hl0 => ?_) (fun hl0 => ?_)
        · have pyl := pickR_ev y l.length hy (by omega)
          have byl := pickF_in (c := y) (n := l.length) (by omega)
          rw [if_pos h01, if_pos (by omega)] at hb
          generalize pickF y l.length = yl at *
          obtain ⟨q, hq⟩ : ∃ q : Nat, yl = q := ⟨yl.toNat, by omega⟩
          subst hq
          rw [Int.toNat_natCast] at hb
          subst hb
          rw [hLp] at sP
          simp -implicitDefEqProofs (disch := omega) only [go_sem, e1, e2, e3, e4, e8, e9, e10, e11, s4, s8, sC, s10, sP, sX, e65, e51, hZk]
          refine callC_at pyl ?_
          have hw8 : IntKind.i64.wrap (how.tdiv 8) = how.tdiv 8 := wrap64_of (R64_tdiv (d := 8) (by omega) hh)
          have hbc := bentC_ev (gd l q) (how.tdiv 8) x (R64_tdiv (d := 8) (by omega) hh) (hlt _ (gd_mem l q (by omega)))
          simp -implicitDefEqProofs (disch := omega) only [go_sem, e1, e2, e3, e4, e8, e9, e10, e11, s4, s8, sC, s10, sP, sX, e65, e51, hZk, hw8]
          refine callC_at hbc ?_
          simp -implicitDefEqProofs (disch := omega) only [go_sem, e1, e2, e3, e4, e8, e9, e10, e11, s4, s8, sC, s10, sP, sX, e65, e51, hZk, hw8, and_self]
          exact ⟨l.set q (bentC (gd l q) (how.tdiv 8) x), _, p, by rw [List.map_set], by rw [hp], rfl, List.take_of_length_le (by simp), by omega, List.take_of_length_le (by omega), ⟨by omega, hpl⟩, pathFrz_RP _ _ _⟩
        · rw [if_pos h01, if_neg (by omega)] at hb
          subst hb
          rw [hLp] at sP
          obtain rfl : l = [] := List.eq_nil_of_length_eq_zero (by omega)
          simp -implicitDefEqProofs (disch := omega) only [go_sem, e1, e2, e3, e4, e8, e9, e10, e11, s4, s8, sC, s10, sP, sX, e65, e51, hZk]
          refine callC_at px100 ?_
          simp -implicitDefEqProofs (disch := omega) only [go_sem, e1, e2, e3, e4, e8, e9, e10, e11, s4, s8, sC, s10, sP, sX, e65, e51, hZk, and_self]
          exact ⟨[⟨h, 0, 1, x100, ByteArray.empty⟩], _, p, rfl, by rw [hp], rfl, rfl, List.take_of_length_le (by omega), ⟨by omega, hpl⟩, pathFrz_RP _ _ _⟩
      · simp -implicitDefEqProofs (disch := omega) only [go_sem, e1, e2, e3, e4, e8, e9, e10, e11, s4, s8, sC, s10, sP, sX, e65, e51, hZk, hLo, hLi]
        rw [if_neg h01] at hb
        refine branch_mk (fun h2 => ?_) (fun h2 => ?_)
        · have hLp := hLq (by omega)
          rw [if_pos h2] at hb
          subst hb
          rw [hLp] at sP
          simp -implicitDefEqProofs (disch := omega) only [go_sem, e1, e2, e3, e4, e8, e9, e10, e11, s4, s8, sC, s10, sP, sX, e65, e51, hZk, and_self]
          refine callC_at (sumR_ev s (by omega)) ?_
          simp -implicitDefEqProofs (disch := omega) only [go_sem, e1, e2, e3, e4, e8, e9, e10, e11, s4, s8, sC, s10, sP, sX, e65, e51, hZk, and_self]
          exact ⟨l, _, p, rfl, by rw [hp], rfl, List.take_of_length_le (Nat.le_refl _), by omega, List.take_of_length_le (by omega), ⟨by omega, hpl⟩, pathFrz_RP _ _ _⟩
        rw [if_neg h2] at hb
        simp -implicitDefEqProofs (disch := omega) only [go_sem, e1, e2, e3, e4, e8, e9, e10, e11, s4, s8, sC, s10, sP, sX, e65, e51, hZk, hLo, hLi, h2]
        refine branch_mk (fun h3 => ?_) (fun h3 => ?_)
        · have hLp := hLq (by omega)
          rw [if_pos h3] at hb
          subst hb
          rw [hLp] at sP
          simp -implicitDefEqProofs (disch := omega) only [go_sem, e1, e2, e3, e4, e8, e9, e10, e11, s4, s8, sC, s10, sP, sX, e65, e51, hZk, and_self]
          exact ⟨l, _, p, rfl, by rw [hp], rfl, List.take_of_length_le (Nat.le_refl _), by omega, List.take_of_length_le (by omega), ⟨by omega, hpl⟩, pathFrz_RP _ _ _⟩
        rw [if_neg h3] at hb
        simp -implicitDefEqProofs (disch := omega) only [go_sem, e1, e2, e3, e4, e8, e9, e10, e11, s4, s8, sC, s10, sP, sX, e65, e51, hZk, hLo, hLi, h2, h3]
        refine branch_mk (fun h4 => ?_) (fun h4 => ?_)
        · rw [if_pos h4] at hb
          subst hb
          obtain ⟨q, hq⟩ : ∃ q : Nat, y6 = q := ⟨y6.toNat, by omega⟩
          subst hq
          rw [Int.toNat_natCast]
          obtain ⟨r, hr⟩ : ∃ r : Nat, x8 = r := ⟨x8.toNat, by omega⟩
          subst hr
          rw [Int.toNat_natCast]
          rw [if_pos h4, Int.toNat_natCast] at hj
          have hgq := hpt _ (gd_mem p q (by omega))
          have hLe : L 6 = lsR 62914625 q (gd p q) p := by rw [hL, hj]; simp only; rw [List.take_of_length_le (by omega)]
          have hLat : (L 6)[q]? = some (.agg [.own 62914625 1 0 8, .v (.string (gd p q).2)]) := by
            rw [hLe]; unfold lsR elR; rw [List.getElem?_set_self (by simp; omega)]
          have hZ6 : Z 6 = some ⟨3, 1, (gd p q).1.map I⟩ := by rw [hZ, hj]; simp only; rw [if_pos (by omega)]
          have hLs : AV.namesL (inL [3932282, 3932287, 3932291]) (L 6) = false := hLn 6 _ rfl
          have hgb := hgq.2.1 _ (gd_mem (gd p q).1 r (by have := hgq.1; omega))
          simp -implicitDefEqProofs (disch := omega) only [go_sem, e1, e2, e3, e4, e8, e9, e10, e11, s4, s8, sC, s10, sP, sX, e65, e51, hZk, and_self]
          refine branch_l (by omega) ?_
          simp -implicitDefEqProofs (disch := omega) only [go_sem, e1, e2, e3, e4, e8, e9, e10, e11, s4, s8, sC, s10, sP, sX, e65, e51, hZk, and_self]
          refine callC_at py6 ?_
          simp -implicitDefEqProofs (disch := omega) only [go_sem, e1, e2, e3, e4, e8, e9, e10, e11, s4, s8, sC, s10, sP, sX, e65, e51, hZk, hLs, hLat, hZ6, and_self]
          refine callC_at px8 ?_
          have h8q := hgq.1
          simp -implicitDefEqProofs (disch := omega) only [go_sem, e1, e2, e3, e4, e8, e9, e10, e11, s4, s8, sC, s10, sP, sX, e65, e51, hZk, hLs, hLat, hZ6, h8q, and_self]
          refine callC_at px9 ?_
          simp -implicitDefEqProofs (disch := omega) only [go_sem, e1, e2, e3, e4, e8, e9, e10, e11, s4, s8, sC, s10, sP, sX, e65, e51, hZk, hLs, hLat, hZ6, h8q, and_self]
          rw [hLe]
          refine ⟨l, _, _, rfl, by rw [hp], rfl, List.take_of_length_le (Nat.le_refl _), by omega, List.take_of_length_le (by simp), ⟨by omega, fun t ht => ?_⟩, pathFrz_one (by omega) (by simp [h8q]) rfl⟩
          rcases List.mem_or_eq_of_mem_set ht with h1 | h1
          · exact hpl t h1
          · rw [h1]; simp [h8q]
        have hLp := hLq (by omega)
        rw [hLp] at sP
        rw [if_neg h4] at hb
        simp -implicitDefEqProofs (disch := omega) only [go_sem, e1, e2, e3, e4, e8, e9, e10, e11, s4, s8, sC, s10, sP, sX, e65, e51, hZk, hLo, hLi, h2, h3, h4]
        refine branch_mk (fun h5 => ?_) (fun h5 => ?_)
        · rw [if_pos h5] at hb
          subst hb
          obtain ⟨q, hq⟩ : ∃ q : Nat, y6 = q := ⟨y6.toNat, by omega⟩
          subst hq
          rw [Int.toNat_natCast]
          simp -implicitDefEqProofs (disch := omega) only [go_sem, e1, e2, e3, e4, e8, e9, e10, e11, s4, s8, sC, s10, sP, sX, e65, e51, hZk, and_self]
          refine branch_l (by omega) ?_
          simp -implicitDefEqProofs (disch := omega) only [go_sem, e1, e2, e3, e4, e8, e9, e10, e11, s4, s8, sC, s10, sP, sX, e65, e51, hZk, and_self]
          refine callC_at py6 ?_
          have hgq := hpt _ (gd_mem p q (by omega))
          simp -implicitDefEqProofs (disch := omega) only [go_sem, e1, e2, e3, e4, e8, e9, e10, e11, s4, s8, sC, s10, sP, sX, e65, e51, hZk, and_self]
          refine callC_at (sumR_ev (gd p q).2 (by have := hgq.2.2; omega)) ?_
          simp -implicitDefEqProofs (disch := omega) only [go_sem, e1, e2, e3, e4, e8, e9, e10, e11, s4, s8, sC, s10, sP, sX, e65, e51, hZk, and_self]
          refine ⟨l, _, p.set q ((gd p q).1, shaF (gd p q).2), rfl, by rw [hp], rfl, List.take_of_length_le (Nat.le_refl _), by omega, List.take_of_length_le (by simp), ⟨by omega, fun t ht => ?_⟩, pathFrz_eq _ _ (by rw [List.map_set])⟩
          rcases List.mem_or_eq_of_mem_set ht with h1 | h1
          · exact hpl t h1
          · rw [h1]; exact hpl (gd p q) (gd_mem p q (by omega))
        rw [if_neg h5] at hb
        simp -implicitDefEqProofs (disch := omega) only [go_sem, e1, e2, e3, e4, e8, e9, e10, e11, s4, s8, sC, s10, sP, sX, e65, e51, hZk, hLo, hLi, h2, h3, h4, h5]
        refine branch_mk (fun h6 => ?_) (fun h6 => ?_)
        · rw [if_pos h6] at hb
          subst hb
          simp -implicitDefEqProofs (disch := omega) only [go_sem, e1, e2, e3, e4, e8, e9, e10, e11, s4, s8, sC, s10, sP, sX, e65, e51, hZk, and_self]
          refine branch_l (by omega) ?_
          simp -implicitDefEqProofs (disch := omega) only [go_sem, e1, e2, e3, e4, e8, e9, e10, e11, s4, s8, sC, s10, sP, sX, e65, e51, hZk, and_self]
          have h56 : (p.take 5).length = 5 := by rw [List.length_take, hp]; rfl
          exact ⟨l, _, p, rfl, by rw [h56]; rfl, rfl, List.take_of_length_le (Nat.le_refl _), by omega, by rw [h56], ⟨by omega, fun t ht => hpl t (List.mem_of_mem_take ht)⟩, pathFrz_RP _ _ _⟩
        rw [if_neg h6] at hb
        simp -implicitDefEqProofs (disch := omega) only [go_sem, e1, e2, e3, e4, e8, e9, e10, e11, s4, s8, sC, s10, sP, sX, e65, e51, hZk, hLo, hLi, h2, h3, h4, h5, h6]
        refine branch_mk (fun hl0 => ?_) (fun hl0 => ?_)
        · rw [if_pos (by omega)] at hb
          subst hb
          have hn1 : ((l.length : Int) - 1).toNat - 0 = l.length - 1 := by omega
          have hn2 : (l.take (l.length - 1)).length = l.length - 1 := by rw [List.length_take]; omega
          simp -implicitDefEqProofs (disch := omega) only [go_sem, e1, e2, e3, e4, e8, e9, e10, e11, s4, s8, sC, s10, sP, sX, e65, e51, hZk, hn1, hn2, and_self]
          exact ⟨l, _, p, rfl, by rw [hp], rfl, rfl, by omega, List.take_of_length_le (by omega), ⟨by omega, hpl⟩, pathFrz_RP _ _ _⟩
        · rw [if_neg (by omega)] at hb
          subst hb
          simp -implicitDefEqProofs (disch := omega) only [go_sem, e1, e2, e3, e4, e8, e9, e10, e11, s4, s8, sC, s10, sP, sX, e65, e51, hZk, and_self]
          exact ⟨l, _, p, rfl, by rw [hp]; rfl, rfl, List.take_of_length_le (Nat.le_refl _), by omega, List.take_of_length_le (by omega), ⟨by omega, hpl⟩, pathFrz_RP _ _ _⟩
      · clear e1 e2 e3 e4 e8 e9 e10 e11 s4 s8 sC s10 sP sX e65 e51 E σ
        rintro E σ ⟨e4, e8, e9, e10, s4, s8, ll, pv, pp, sC, s10, sP, hll, hlb, hpp, hpb, hz⟩
        simp -implicitDefEqProofs (disch := omega) only [go_sem, e4, e8, e9, e10, s4, s8, sC, s10, sP]
        refine freeze_sem [62914625] ?_
        have hz' := hz σ rfl
        have a4 : frE (inI [62914625]) σ E 4 = .ptr 62914624 4 0 0 := by simp -implicitDefEqProofs (disch := omega) only [go_sem, e4]
        have a8 : frE (inI [62914625]) σ E 8 = .ptr 62914688 4 0 0 := by simp -implicitDefEqProofs (disch := omega) only [go_sem, e8]
        have a10 : frE (inI [62914625]) σ E 10 = .ptr 62914720 4 0 0 := by simp -implicitDefEqProofs (disch := omega) only [go_sem, e10]
        have b4 : frS (inI [62914625]) σ 62914624 = some ⟨51, 4, [.agg [I h, CL l, Str s, RPL p]]⟩ := by simp -implicitDefEqProofs (disch := omega) only [go_sem, s4]
        have b8 : frS (inI [62914625]) σ 62914688 = some ⟨51, 4, [.agg [I 0, .v (.slice none 0 0), Str ByteArray.empty, .v (.slice none 0 0)]]⟩ := by simp -implicitDefEqProofs (disch := omega) only [go_sem, s8]
        have bC : frS (inI [62914625]) σ 62914816 = some ⟨30, 5, ll.map CH⟩ := by simp -implicitDefEqProofs (disch := omega) only [go_sem, sC]
        have b10 : frS (inI [62914625]) σ 62914720 = some ⟨51, 4, [.agg [I b.h, .own 62914816 5 0 b.l.length, Str b.s, .own 62914721 2 0 b.p.length]]⟩ := by simp -implicitDefEqProofs (disch := omega) only [go_sem, s10]
        have bP : frS (inI [62914625]) σ 62914721 = some ⟨35, 2, pp.map RP⟩ := by
          show (if inI [62914625] 62914721 then none else (σ 62914721).map (frzB (notI (inI [62914625])) (inL []) σ)) = _
          rw [sP, Option.map_some, hz']; rfl
        generalize frE (inI [62914625]) σ E = E' at *
        generalize frS (inI [62914625]) σ = σ' at *
        clear e4 e8 e9 e10 s4 s8 sC s10 sP hz hz' E σ
        obtain ⟨bh, bl, bs, bp⟩ := b
        simp only at hll hlb hpp hpb
        have hl1 : bl.length ≤ ll.length := by have := congrArg List.length hll; rw [List.length_take] at this; omega
        have hp1 : bp.length ≤ pp.length := by have := congrArg List.length hpp; rw [List.length_take] at this; omega
        refine freeze_sem [62914816, 62914721] ?_
        refine region_J (Plain.mono) (fun D E σ => E 4 = .ptr 62914624 4 0 0 ∧ E 8 = .ptr 62914688 4 0 0 ∧ E 10 = .ptr 62914720 4 0 0 ∧ σ 62914624 = some ⟨51, 4, [.agg [I h, CL l, Str s, RPL p]]⟩ ∧ σ 62914720 = some ⟨51, 4, [.agg [I bh, CL bl, Str bs, RPL bp]]⟩ ∧ (D 5 = false → σ 62914688 = some ⟨51, 4, [.agg [I 0, .v (.slice none 0 0), Str ByteArray.empty, .v (.slice none 0 0)]]⟩) ∧ (D 5 = true → σ 62914688 = some ⟨51, 4, [.agg [I bh, CL bl, Str bs, RPL bp]]⟩) ∧ (D 0 = true → E 172 = .agg [I bh, CL bl, Str bs, RPL bp]) ∧ (D 1 = true → E 173 = .agg [I h, CL l, Str s, RPL p]) ∧ (D 2 = true → E 174 = .agg [I bh, CL bl, Str bs, RPL bp]) ∧ (D 3 = true → E 175 = B (decide (h = bh ∧ s = bs ∧ l = bl ∧ p = bp))) ∧ (D 4 = true → E 176 = B (!decide (h = bh ∧ s = bs ∧ l = bl ∧ p = bp))) ∧ (D 6 = true → E 9 = B (!decide (h = bh ∧ s = bs ∧ l = bl ∧ p = bp)))) ?_ ?_ ?_
        · simp -implicitDefEqProofs (disch := omega) only [go_sem, a4, a8, a10, b4, b8, bC, b10, bP, hll, hpp, hl1, hp1, and_self]
          simp
        · simp only [stepsJ, and_true]
          refine ⟨?_, ?_, ?_, ?_, ?_, ?_, ?_⟩
          · rintro D hD hd E σ ⟨e4, e8, e10, s4, s10, m0_0, m0_1, j0, j1, j2, j3, j4, j6⟩
            have hD : D 0 = false := hD
            simp -implicitDefEqProofs (disch := omega) only [go_sem, e4, e8, e10, s4, s10, a4, a8, a10, b4, b8, bC, b10, bP, hll, hpp, hl1, hp1, and_self]
            repeat' apply And.intro
            all_goals first | assumption | (intro _; assumption) | trivial | (simp -implicitDefEqProofs (contextual := true) (disch := first | assumption | omega) only [go_sem, m0_0, m0_1, j0, j1, j2, j3, j4, j6, implies_true, forall_const, false_implies, true_implies]; done) | (intros; contradiction) | trace_state
          · rintro D hD hd E σ ⟨e4, e8, e10, s4, s10, m0_0, m0_1, j0, j1, j2, j3, j4, j6⟩
            have hD : D 1 = false := hD
            simp -implicitDefEqProofs (disch := omega) only [go_sem, e4, e8, e10, s4, s10, a4, a8, a10, b4, b8, bC, b10, bP, hll, hpp, hl1, hp1, and_self]
            repeat' apply And.intro
            all_goals first | assumption | (intro _; assumption) | trivial | (simp -implicitDefEqProofs (contextual := true) (disch := first | assumption | omega) only [go_sem, m0_0, m0_1, j0, j1, j2, j3, j4, j6, implies_true, forall_const, false_implies, true_implies]; done) | (intros; contradiction) | trace_state
          · rintro D hD hd E σ ⟨e4, e8, e10, s4, s10, m0_0, m0_1, j0, j1, j2, j3, j4, j6⟩
            have hD : D 2 = false := hD
            simp -implicitDefEqProofs (disch := omega) only [go_sem, e4, e8, e10, s4, s10, a4, a8, a10, b4, b8, bC, b10, bP, hll, hpp, hl1, hp1, and_self]
            repeat' apply And.intro
            all_goals first | assumption | (intro _; assumption) | trivial | (simp -implicitDefEqProofs (contextual := true) (disch := first | assumption | omega) only [go_sem, m0_0, m0_1, j0, j1, j2, j3, j4, j6, implies_true, forall_const, false_implies, true_implies]; done) | (intros; contradiction) | trace_state
          · rintro D hD hd E σ ⟨e4, e8, e10, s4, s10, m0_0, m0_1, j0, j1, j2, j3, j4, j6⟩
            have hD : D 3 = false := hD
            have d1 : D 1 = true := hd ⟨1, .data⟩ (by simp) rfl
            have q1 := j1 d1
            have d2 : D 2 = true := hd ⟨2, .data⟩ (by simp) rfl
            have q2 := j2 d2
            simp -implicitDefEqProofs (disch := omega) only [go_sem, e4, e8, e10, s4, s10, q1, q2, a4, a8, a10, b4, b8, bC, b10, bP, hll, hpp, hl1, hp1, and_self]
            refine callC_at (same_ev ⟨h, l, s, p⟩ ⟨bh, bl, bs, bp⟩ (show l.length ≤ _ by omega) (show bl.length ≤ _ by omega) (show p.length ≤ _ by omega) (show bp.length ≤ _ by omega) (fun t ht => by have := hpl t ht; omega) (fun t ht => by have := hpb.2 t ht; omega)) ?_
            simp -implicitDefEqProofs (disch := omega) only [go_sem, e4, e8, e10, s4, s10, q1, q2, a4, a8, a10, b4, b8, bC, b10, bP, hll, hpp, hl1, hp1, and_self]
            repeat' apply And.intro
            all_goals first | assumption | (intro _; assumption) | trivial | (simp -implicitDefEqProofs (contextual := true) (disch := first | assumption | omega) only [go_sem, m0_0, m0_1, j0, j1, j2, j3, j4, j6, implies_true, forall_const, false_implies, true_implies]; done) | (intros; contradiction) | trace_state
          · rintro D hD hd E σ ⟨e4, e8, e10, s4, s10, m0_0, m0_1, j0, j1, j2, j3, j4, j6⟩
            have hD : D 4 = false := hD
            have d3 : D 3 = true := hd ⟨3, .data⟩ (by simp) rfl
            have q3 := j3 d3
            simp -implicitDefEqProofs (disch := omega) only [go_sem, e4, e8, e10, s4, s10, q3, a4, a8, a10, b4, b8, bC, b10, bP, hll, hpp, hl1, hp1, and_self]
            repeat' apply And.intro
            all_goals first | assumption | (intro _; assumption) | trivial | (simp -implicitDefEqProofs (contextual := true) (disch := first | assumption | omega) only [go_sem, m0_0, m0_1, j0, j1, j2, j3, j4, j6, implies_true, forall_const, false_implies, true_implies]; done) | (intros; contradiction) | trace_state
          · rintro D hD hd E σ ⟨e4, e8, e10, s4, s10, m0_0, m0_1, j0, j1, j2, j3, j4, j6⟩
            have hD : D 5 = false := hD
            have d0 : D 0 = true := hd ⟨0, .data⟩ (by simp) rfl
            have q0 := j0 d0
            have g0 := m0_0 hD
            simp -implicitDefEqProofs (disch := omega) only [go_sem, e4, e8, e10, s4, s10, q0, g0, a4, a8, a10, b4, b8, bC, b10, bP, hll, hpp, hl1, hp1, and_self]
            repeat' apply And.intro
            all_goals first | assumption | (intro _; assumption) | trivial | (simp -implicitDefEqProofs (contextual := true) (disch := first | assumption | omega) only [go_sem, m0_0, m0_1, j0, j1, j2, j3, j4, j6, implies_true, forall_const, false_implies, true_implies]; done) | (intros; contradiction) | trace_state
          · rintro D hD hd E σ ⟨e4, e8, e10, s4, s10, m0_0, m0_1, j0, j1, j2, j3, j4, j6⟩
            have hD : D 6 = false := hD
            have d4 : D 4 = true := hd ⟨4, .data⟩ (by simp) rfl
            have q4 := j4 d4
            simp -implicitDefEqProofs (disch := omega) only [go_sem, e4, e8, e10, s4, s10, q4, a4, a8, a10, b4, b8, bC, b10, bP, hll, hpp, hl1, hp1, and_self]
            repeat' apply And.intro
            all_goals first | assumption | (intro _; assumption) | trivial | (simp -implicitDefEqProofs (contextual := true) (disch := first | assumption | omega) only [go_sem, m0_0, m0_1, j0, j1, j2, j3, j4, j6, implies_true, forall_const, false_implies, true_implies]; done) | (intros; contradiction) | trace_state
        · rintro D E σ hD ⟨e4, e8, e10, s4, s10, m0_0, m0_1, j0, j1, j2, j3, j4, j6⟩
          have g0 := m0_1 (hD 5 (by decide))
          have q0 := j0 (hD 0 (by decide))
          have q1 := j1 (hD 1 (by decide))
          have q2 := j2 (hD 2 (by decide))
          have q3 := j3 (hD 3 (by decide))
          have q4 := j4 (hD 4 (by decide))
          have q6 := j6 (hD 6 (by decide))
          clear m0_0 m0_1 j0 j1 j2 j3 j4 j6 hD
          simp -implicitDefEqProofs (disch := omega) only [go_sem, e4, e8, e10, s4, s10, g0, q6, Tryd.results29]
end Go.Proofs.YtgbcfpcjljhijaaDoor
set_option maxRecDepth 100000
namespace Go.Proofs.YtgbcfpcjljhijaaDoor
open Go.Vai Go Go.Proofs
open Nat (reduceEqDiff reduceMul reduceAdd reduceDiv reduceLeDiff)
open Int (reduceToNat reduceNe reduceEq reduceLT reduceLE)
theorem liftB_size {B : Int} {h : Nat} {u t : Tot} (hu : TotB 1000000000000 u) (ht : TotB B t) : (liftB h u t).size ≤ 3000 := by
  have h1 := codeF_size hu
  have h2 := codeF_size ht
  have hz : z1.size = 1 := rfl
  unfold liftB; split <;> (unfold nodeB; rw [ByteArray.size_append, ByteArray.size_append]; omega)
theorem walkH_size : ∀ (p : List Tot) (h : Nat) (t : Tot) (B : Int), (∀ u ∈ p, TotB 1000000000000 u) → TotB B t → 0 ≤ B → ∀ x ∈ walkH h p t, x.size ≤ 3000
  | [], _, _, _, _, _, _, _, hx => by cases hx
  | u :: p, h, t, B, hp, ht, hB, x, hx => by
    rw [walkH] at hx
    rcases List.mem_cons.1 hx with e | e
    · rw [e]; exact liftB_size (hp u (by simp)) ht
    · exact walkH_size p (h / 2) (liftT h u t) (B + 1000000000000) (fun v hv => hp v (by simp [hv])) (step_ok (hp u (by simp)) ht hB) (by omega) x e
theorem walkH_length : ∀ (p : List Tot) (h : Nat) (t : Tot), (walkH h p t).length = p.length
  | [], _, _ => rfl
  | u :: p, h, t => by rw [walkH, List.length_cons, walkH_length p, List.length_cons]
theorem hashed_len {a : Acc} (ha : accOK a = true) : (hashedF a).length ≤ 9 := by
  have hp := (accOK_iff ha).2.2.2.2.1
  unfold hashedF; rw [if_pos ha, List.length_append, walkH_length, hp]; simp [leafH]
theorem hashed_size {a : Acc} (ha : accOK a = true) : ∀ x ∈ hashedF a, x.size ≤ 20000 := fun x hx => by
  obtain ⟨_, ⟨h2, h3⟩, _, h5, _, h7⟩ := accOK_iff ha
  unfold hashedF at hx
  rw [if_pos ha] at hx
  have hz1 : z1.size = 1 := rfl
  have hz0 : z0.size = 1 := rfl
  rcases List.mem_append.1 hx with e | e
  · have hc := contF_size h3 h2
    have hl := leafF_size (contF a.l)
    have hn := nodeF_size a.s (leafF (contF a.l))
    have hs := numS_size (sumsF a.l)
    have h8 := sumsF_len a.l
    simp only [leafH, List.mem_cons, List.not_mem_nil, or_false] at e
    rcases e with e | e | e <;> subst e
    · rw [ByteArray.size_append]; omega
    · rw [ByteArray.size_append, ByteArray.size_append]; omega
    · rw [ByteArray.size_append, ByteArray.size_append]; omega
  · have := walkH_size a.p a.h.toNat (leafT a.s a.l) 120000000000 h7 (leafT_ok _ _ h3 h2) (by decide) x e
    omega
theorem check_acc {s : Tot} {a : Acc} (h : checkF s a = true) : accOK a = true := by
  simp only [checkF, Bool.and_eq_true] at h; exact h.1
theorem bentF_small {a : Acc} (how x y : Int) (hl : a.l.length ≤ 60) (hp : a.p.length = 6) (ht : ∀ t ∈ a.p, t.1.length = 8) : (bentF a how x y).l.length ≤ 100 ∧ (bentF a how x y).p.length ≤ 6 ∧ ∀ t ∈ (bentF a how x y).p, t.1.length = 8 := by
  have hy := pickF_in (c := y) (n := 6) (by omega)
  have hg := ht _ (gd_mem a.p (pickF y 6).toNat (by omega))
  unfold bentF
  split
  · split
    · exact ⟨by simp; omega, by show a.p.length ≤ _; omega, ht⟩
    · exact ⟨by simp, by show a.p.length ≤ _; omega, ht⟩
  split
  · exact ⟨by show a.l.length ≤ _; omega, by show a.p.length ≤ _; omega, ht⟩
  split
  · exact ⟨by show a.l.length ≤ _; omega, by show a.p.length ≤ _; omega, ht⟩
  split
  · refine ⟨by show a.l.length ≤ _; omega, by simp; omega, fun t h => ?_⟩
    rcases List.mem_or_eq_of_mem_set h with h1 | h1
    · exact ht t h1
    · rw [h1]; simpa using hg
  split
  · refine ⟨by show a.l.length ≤ _; omega, by simp; omega, fun t h => ?_⟩
    rcases List.mem_or_eq_of_mem_set h with h1 | h1
    · exact ht t h1
    · rw [h1]; simpa using hg
  split
  · exact ⟨by show a.l.length ≤ _; omega, by simp; omega, fun t h => ht t (List.mem_of_mem_take h)⟩
  split
  · exact ⟨by simp; omega, by show a.p.length ≤ _; omega, ht⟩
  · exact ⟨by show a.l.length ≤ _; omega, by show a.p.length ≤ _; omega, ht⟩
theorem dn_SLs (l : List ByteArray) : (SLs l).dn = false := dnL_map l Str fun _ => rfl
instance : Inhabited Acc := ⟨⟨0, [], ⟨#[]⟩, []⟩⟩
theorem hashedA_ev {a : Acc} (hl : a.l.length ≤ 100) (hp : a.p.length ≤ 100) (ht : ∀ t ∈ a.p, t.1.length = 8) : Ev Tryd.prog 34 [AP a] (SLs (hashedF a)) :=
  hashed_ev a (by omega) (by omega) (fun t h => by have := ht t h; omega)
theorem bentA_ev {a : Acc} (ha : accOK a = true) (how x y : Int) (hh : R64 how) (hx : R64 x) (hy : R64 y) :
    Ev Tryd.prog 29 [AP a, I how, I x, I y] (.tup [AP (bentF a how x y), B (!decide (a.h = (bentF a how x y).h ∧ a.s = (bentF a how x y).s ∧ a.l = (bentF a how x y).l ∧ a.p = (bentF a how x y).p))]) := by
  obtain ⟨_, ⟨h2, h3⟩, _, h5, h6, h7⟩ := accOK_iff ha
  refine bent_ev a how x y hh hx hy (by omega) (fun c hc => ?_) (by omega) h6 h7
  obtain ⟨_, _, _, _, _, _, _, _, h9⟩ := h3 c hc
  omega
section
variable (p : Nat → Bool) (l : List Acc)
@[go_sem] theorem namesL_AP : AV.namesL p (l.map AP) = false := namesL_map p l AP fun _ => rfl
@[go_sem] theorem allOK_AP : allOK 4 (l.map AP) = true := allOK_map 4 l AP fun _ => ⟨rfl, rfl⟩
end
end Go.Proofs.YtgbcfpcjljhijaaDoor
set_option maxRecDepth 100000
namespace Go.Proofs.YtgbcfpcjljhijaaDoor
open Go.Vai Go Go.Proofs
open Nat (reduceEqDiff reduceMul reduceAdd reduceDiv reduceLeDiff)
open Int (reduceToNat reduceNe reduceEq reduceLT reduceLE)
theorem node_free {A B C D : Int} {a b c d : Tot} (ha : TotB A a) (hb : TotB B b) (hc : TotB C c) (hd : TotB D d) (hA : A ≤ 4611686018427387903) (hB : B ≤ 4611686018427387903) (hC : C ≤ 4611686018427387903) (hD : D ≤ 4611686018427387903) (e : nodeB a b = nodeB c d) : a = c ∧ b = d := by
  have e := pre_inj e
  obtain ⟨e1, e2⟩ := code_free ha hc hA hC e
  obtain ⟨e3, _⟩ := code_free (a := ⟨#[]⟩) (b := ⟨#[]⟩) hb hd hB hD (by rw [e2])
  exact ⟨e1, e3⟩
theorem walkT_take : ∀ (p : List Tot) (h k : Nat) (t : Tot), k < p.length → walkT h (p.take (k + 1)) t = liftT (h / 2 ^ k) (gd p k) (walkT h (p.take k) t)
  | [], _, _, _, hk => by cases hk
  | u :: p, h, 0, t, _ => by simp [walkT, gd]
  | u :: p, h, k + 1, t, hk => by
    have := walkT_take p (h / 2) k (liftT h u t) (by simpa using hk)
    rw [List.take_succ_cons, walkT, this, List.take_succ_cons, walkT, Nat.div_div_eq_div_mul, Nat.pow_succ, Nat.mul_comm 2]; rfl
theorem liftB_mem : ∀ (p : List Tot) (h k : Nat) (t : Tot), k < p.length → liftB (h / 2 ^ k) (gd p k) (walkT h (p.take k) t) ∈ walkH h p t
  | [], _, _, _, hk => by cases hk
  | u :: p, h, 0, t, _ => by simp [walkT, walkH, gd]
  | u :: p, h, k + 1, t, hk => by
    have := liftB_mem p (h / 2) k (liftT h u t) (by simpa using hk)
    rw [Nat.div_div_eq_div_mul, Nat.mul_comm 2, ← Nat.pow_succ] at this
    rw [walkH, List.take_succ_cons, walkT]
    exact List.mem_cons_of_mem _ this
theorem walkT_ok : ∀ (p : List Tot) (h : Nat) (t : Tot) (B : Int), (∀ u ∈ p, TotB 1000000000000 u) → TotB B t → 0 ≤ B → TotB (B + 1000000000000 * p.length) (walkT h p t)
  | [], _, t, B, _, ht, _ => by simpa [walkT] using ht
  | u :: p, h, t, B, hp, ht, hB => by
    have := walkT_ok p (h / 2) (liftT h u t) (B + 1000000000000) (fun v hv => hp v (by simp [hv])) (step_ok (hp u (by simp)) ht hB) (by omega)
    rw [walkT]
    refine this.mono ?_
    simp only [List.length_cons]; push_cast; omega
def totN (f : Nat → Int) : Nat → Int
  | 0 => 0
  | n + 1 => totN f n + f n
theorem totN_pair (f : Nat → Int) : ∀ n, totN f (2 * n) = totN (fun m => f (2 * m) + f (2 * m + 1)) n
  | 0 => rfl
  | n + 1 => by
    rw [show 2 * (n + 1) = 2 * n + 1 + 1 from by omega, totN, totN, totN, totN_pair f n]; omega
theorem totN_congr {f g : Nat → Int} : ∀ n, (∀ i, i < n → f i = g i) → totN f n = totN g n
  | 0, _ => rfl
  | n + 1, h => by rw [totN, totN, totN_congr n fun i hi => h i (by omega), h n (by omega)]
section
variable (s : Tot) (A : Nat → Acc) (H : List ByteArray) (hA : ∀ i, i < 64 → checkF s (A i) = true) (hh : ∀ i, i < 64 → (A i).h = (i : Int)) (hH : ∀ i, i < 64 → ∀ x ∈ hashedF (A i), x ∈ H) (hn : ¬ Coll H H)
def Wk (A : Nat → Acc) (k i : Nat) : Tot := walkT i ((A i).p.take k) (leafT (A i).s (A i).l)
include hA hh
theorem Wk_six {i : Nat} (hi : i < 64) : Wk A 6 i = s := by
  have h := hA i hi
  simp only [checkF, Bool.and_eq_true, decide_eq_true_eq] at h
  have h6 := (accOK_iff h.1).2.2.2.2.1
  have := h.2
  rw [hh i hi, Int.toNat_natCast] at this
  unfold Wk; rw [List.take_of_length_le (by omega)]; exact this
omit hh in
theorem Wk_ok {i k : Nat} (hi : i < 64) : TotB (120000000000 + 1000000000000 * 6) (Wk A k i) := by
  obtain ⟨_, ⟨h2, h3⟩, _, h5, h6, h7⟩ := accOK_iff (check_acc (hA i hi))
  refine (walkT_ok _ i _ 120000000000 (fun u hu => h7 u (List.mem_of_mem_take hu)) (leafT_ok _ _ h3 h2) (by decide)).mono ?_
  have : ((A i).p.take k).length ≤ 6 := by rw [List.length_take]; omega
  omega
include hH hn
theorem Wk_down {k : Nat} (hk : k < 6) (P : ∀ i j, i < 64 → j < 64 → i / 2 ^ (k + 1) = j / 2 ^ (k + 1) → Wk A (k + 1) i = Wk A (k + 1) j) {i j : Nat} (hi : i < 64) (hj : j < 64) (e : i / 2 ^ (k + 1) = j / 2 ^ (k + 1)) :
    (i / 2 ^ k = j / 2 ^ k → Wk A k i = Wk A k j) ∧ (i / 2 ^ k % 2 = 0 → j / 2 ^ k % 2 = 1 → Wk A (k + 1) i = joinT (Wk A k i) (Wk A k j)) := by
  obtain ⟨_, _, _, _, p6, p7⟩ := accOK_iff (check_acc (hA i hi))
  obtain ⟨_, _, _, _, q6, q7⟩ := accOK_iff (check_acc (hA j hj))
  have ei : Wk A (k + 1) i = liftT (i / 2 ^ k) (gd (A i).p k) (Wk A k i) := walkT_take _ _ _ _ (by omega)
  have ej : Wk A (k + 1) j = liftT (j / 2 ^ k) (gd (A j).p k) (Wk A k j) := walkT_take _ _ _ _ (by omega)
  have mi : liftB (i / 2 ^ k) (gd (A i).p k) (Wk A k i) ∈ H := by
    refine hH i hi _ ?_
    unfold hashedF; rw [if_pos (check_acc (hA i hi)), hh i hi, Int.toNat_natCast]
    exact List.mem_append_right _ (liftB_mem _ _ _ _ (by omega))
  have mj : liftB (j / 2 ^ k) (gd (A j).p k) (Wk A k j) ∈ H := by
    refine hH j hj _ ?_
    unfold hashedF; rw [if_pos (check_acc (hA j hj)), hh j hj, Int.toNat_natCast]
    exact List.mem_append_right _ (liftB_mem _ _ _ _ (by omega))
  have es := P i j hi hj e
  rw [ei, ej] at es
  have eb := coll_of mi mj (by rw [← liftT_snd, ← liftT_snd, es]) hn
  have oi := Wk_ok s A hA (k := k) hi
  have oj := Wk_ok s A hA (k := k) hj
  have ui := p7 _ (gd_mem (A i).p k (by omega))
  have uj := q7 _ (gd_mem (A j).p k (by omega))
  refine ⟨fun e2 => ?_, fun e2 e3 => ?_⟩
  · rw [e2] at eb
    exact (step_free ui oi uj oj (by omega) (by omega) eb).2
  · unfold liftB at eb
    rw [if_neg (by omega), if_pos e3] at eb
    have := node_free oi ui uj oj (by omega) (by omega) (by omega) (by omega) eb
    rw [ei, liftT, if_neg (by omega), this.2]
theorem Wk_same : ∀ m k, k + m = 6 → ∀ i j, i < 64 → j < 64 → i / 2 ^ k = j / 2 ^ k → Wk A k i = Wk A k j
  | 0, k, hk, i, j, hi, hj, _ => by
    obtain rfl : k = 6 := by omega
    rw [Wk_six s A hA hh hi, Wk_six s A hA hh hj]
  | m + 1, k, hk, i, j, hi, hj, e => by
    refine (Wk_down s A H hA hh hH hn (k := k) (by omega) (Wk_same m (k + 1) (by omega)) hi hj ?_).1 e
    rw [Nat.pow_succ, ← Nat.div_div_eq_div_mul, ← Nat.div_div_eq_div_mul, e]
theorem Wk_join {k n : Nat} (hk : k < 6) (hn2 : (2 * n + 1) * 2 ^ k < 64) : Wk A (k + 1) (n * 2 ^ (k + 1)) = joinT (Wk A k (2 * n * 2 ^ k)) (Wk A k ((2 * n + 1) * 2 ^ k)) := by
  have hp : 0 < 2 ^ k := Nat.pow_pos (by omega)
  have h1 : n * 2 ^ (k + 1) = 2 * n * 2 ^ k := by rw [Nat.pow_succ, Nat.mul_comm (2 ^ k) 2, ← Nat.mul_assoc, Nat.mul_comm n 2]
  have hle : 2 * n * 2 ^ k ≤ (2 * n + 1) * 2 ^ k := Nat.mul_le_mul_right _ (by omega)
  have d1 : 2 * n * 2 ^ k / 2 ^ k = 2 * n := Nat.mul_div_cancel _ hp
  have d2 : (2 * n + 1) * 2 ^ k / 2 ^ k = 2 * n + 1 := Nat.mul_div_cancel _ hp
  rw [h1]
  refine (Wk_down s A H hA hh hH hn hk (Wk_same s A H hA hh hH hn (6 - (k + 1)) (k + 1) (by omega)) (by omega) hn2 ?_).2 (by rw [d1]; omega) (by rw [d2]; omega)
  rw [Nat.pow_succ, ← Nat.div_div_eq_div_mul, ← Nat.div_div_eq_div_mul, d1, d2]; omega
theorem together {j : Nat} (hj : j < 8) : totN (fun i => gd (sumsF (A i).l) j) 64 = gd s.1 j := by
  have st : ∀ k c, k < 6 → c * 2 ^ (k + 1) = 64 → totN (fun n => gd (Wk A k (n * 2 ^ k)).1 j) (2 * c) = totN (fun n => gd (Wk A (k + 1) (n * 2 ^ (k + 1))).1 j) c := fun k c hk hc => by
    rw [totN_pair]
    refine totN_congr c fun n hnc => ?_
    have hlt : (2 * n + 1) * 2 ^ k < 64 := by
      have h1 : (2 * n + 1) * 2 ^ k < (2 * c) * 2 ^ k := Nat.mul_lt_mul_of_pos_right (by omega) (Nat.pow_pos (by omega))
      have h2 : 2 * c * 2 ^ k = 64 := by rw [← hc, Nat.pow_succ, Nat.mul_comm 2 c, Nat.mul_assoc, Nat.mul_comm 2]
      omega
    rw [Wk_join s A H hA hh hH hn hk hlt]
    exact (joinS_gd _ _ hj).symm
  have h0 : totN (fun i => gd (sumsF (A i).l) j) 64 = totN (fun n => gd (Wk A 0 (n * 2 ^ 0)).1 j) 64 := totN_congr 64 fun n _ => by
    rw [Nat.pow_zero, Nat.mul_one]; rfl
  rw [h0, st 0 32 (by omega) (by decide), st 1 16 (by omega) (by decide), st 2 8 (by omega) (by decide), st 3 4 (by omega) (by decide), st 4 2 (by omega) (by decide), st 5 1 (by omega) (by decide)]
  simp only [totN, Nat.zero_mul]
  rw [Wk_six s A hA hh (by omega)]; omega
end
end Go.Proofs.YtgbcfpcjljhijaaDoor
set_option maxRecDepth 100000
namespace Go.Proofs.YtgbcfpcjljhijaaDoor
open Go.Vai Go Go.Proofs
open Nat (reduceEqDiff reduceMul reduceAdd reduceDiv reduceLeDiff)
open Int (reduceToNat reduceNe reduceEq reduceLT reduceLE)
def addU (a b : List Int) (v : Nat) : List Int := (List.range 8).map fun j => if j < v then gd a j + gd b j else gd a j
theorem addU_length (a b : List Int) (v : Nat) : (addU a b v).length = 8 := by simp [addU]
theorem addU_gd (a b : List Int) (v : Nat) {j : Nat} (hj : j < 8) : gd (addU a b v) j = if j < v then gd a j + gd b j else gd a j := by unfold addU gd; simp [hj]
theorem addU_set (a b : List Int) (v : Nat) (hv : v < 8) : (addU a b v).set v (gd (addU a b v) v + gd b v) = addU a b (v + 1) := gd_ext (by simp [addU_length]) fun j hj => by
  rw [List.length_set, addU_length] at hj
  rw [gd_set _ _ _ _ (by rw [addU_length]; exact hv), addU_gd _ _ _ hj, addU_gd _ _ _ hv, addU_gd _ _ _ hj]
  by_cases e : j = v
  · subst e; simp
  · simp only [e, if_false, show j < v ↔ j < v + 1 from by omega]
theorem addU_zero {a b : List Int} (h : a.length = 8) : addU a b 0 = a := gd_ext (by rw [addU_length, h]) fun j hj => by
  rw [addU_length] at hj; rw [addU_gd _ _ _ hj]; simp
end Go.Proofs.YtgbcfpcjljhijaaDoor
set_option maxRecDepth 100000
namespace Go.Proofs.YtgbcfpcjljhijaaDoor
open Go.Vai Go Go.Proofs
open Nat (reduceEqDiff reduceMul reduceAdd reduceDiv reduceLeDiff)
open Int (reduceToNat reduceNe reduceEq reduceLT reduceLE)
def totL (f : Nat → List Int) (v : Nat) : List Int := (List.range 8).map fun j => totN (fun i => gd (f i) j) v
theorem totL_gd (f : Nat → List Int) (v : Nat) {j : Nat} (hj : j < 8) : gd (totL f v) j = totN (fun i => gd (f i) j) v := by unfold totL gd; simp [hj]
theorem totN_le {f : Nat → Int} {B : Int} : ∀ n : Nat, (∀ i, i < n → -B ≤ f i ∧ f i ≤ B) → -(B * n) ≤ totN f n ∧ totN f n ≤ B * n
  | 0, _ => by simp [totN]
  | n + 1, h => by
    have h1 := totN_le n fun i hi => h i (by omega)
    have h2 := h n (by omega)
    rw [totN]; push_cast; rw [Int.mul_add]; omega
theorem acc_sums {a : Acc} (h : accOK a = true) {j : Nat} (hj : j < 8) : -120000000000 ≤ gd (sumsF a.l) j ∧ gd (sumsF a.l) j ≤ 120000000000 := by
  obtain ⟨_, ⟨h2, h3⟩, _⟩ := accOK_iff h
  exact (leafT_ok a.s a.l h3 h2).2.1 _ (gd_mem (sumsF a.l) j (by have := sumsF_len a.l; omega))
set_option maxHeartbeats 4000000 in
theorem togethers_ev (key : Int) (x : List Fiv) (cu how z w u : Int) (hk : R64 key) (hx : x.length ≤ 9223372036854775807) (hr : ∀ y ∈ x, y.r) (hcu : R64 cu) (hhow : R64 how) (hz : R64 z) (hw : R64 w) (hu : R64 u) :
    Ev Tryd.prog 6 [I key, FL x, I cu, I how, I z, I w, I u] (B true) := by
  have hm := made_ev key x hk hx hr
  have hok := made_ok key x
  have hg := madeF_good x
  have hl10 := madeF_len x
  have hks := madeK_size key
  generalize madeK key = K at *
  generalize madeF x = l at *
  have hll : l.length ≤ 9223372036854775807 := by omega
  have k1 := sealOK_ev K l hll hok
  have hs : (sealT K l).1 = sumsF l := seal_sums K hg (by omega)
  have hs8 : (sealT K l).1.length = 8 := by rw [hs]; exact sumsF_len l
  have h8 := row_len8 K hg (show l.length ≤ 60 by omega) (k := 6) (i := 0) (by omega) (by decide)
  have hsd : (sealT K l).2.size = 32 := h8.2
  have hsb : ∀ n ∈ (sealT K l).1, -1000000000000 ≤ n ∧ n ≤ 1000000000000 := fun n hn => by
    rw [hs] at hn
    obtain ⟨j, hj, rfl⟩ := List.mem_iff_getElem.1 hn
    have e := sumsF_gd hg (j := j) (by have := sumsF_len l; omega)
    rw [gd_get _ j hj] at e
    have := sumJ_le hg j
    omega
  generalize hS : sealT K l = S at *
  obtain ⟨S1, S2⟩ := S
  simp only at hs hs8 hsd hsb
  have p10 := pick_ev cu 10 hcu (by omega)
  have p3 := pick_ev u 3 hu (by omega)
  have p8 := pick_ev u 8 hu (by omega)
  have b8 := pickF_in (c := u) (n := 8) (by omega)
  have ru8 := R64_tdiv (d := 8) (by omega) hu
  have hu8 : IntKind.i64.wrap (u.tdiv 8) = u.tdiv 8 := wrap64_of ru8
  have p88 := pick_ev (u.tdiv 8) 8 ru8 (by omega)
  have b88 := pickF_in (c := u.tdiv 8) (n := 8) (by omega)
  generalize pickF cu 10 = c10 at *
  generalize pickF u 3 = u3 at *
  generalize pickF u 8 = ia_ at *
  generalize pickF (u.tdiv 8) 8 = ib_ at *
  obtain ⟨ia, rfl⟩ : ∃ q : Nat, ia_ = q := ⟨ia_.toNat, by omega⟩
  obtain ⟨ib, rfl⟩ : ∃ q : Nat, ib_ = q := ⟨ib_.toNat, by omega⟩
  have h8t : S1.take 8 = S1 := List.take_of_length_le (by omega)
  refine ev_ofB [8, 12] Tryd.func6 rfl (by kernel_rfl) mo (Nat.le_of_ble_eq_true rfl) ?_
  simp -implicitDefEqProofs (disch := omega) only [go_sem, Tryd.ntmps6]
  refine callC_at sane_ev ?_
  simp -implicitDefEqProofs (disch := omega) only [go_sem]
  refine callC_at hm ?_
  simp -implicitDefEqProofs (disch := omega) only [go_sem]
  refine callC_at k1 ?_
  simp -implicitDefEqProofs (disch := omega) only [go_sem, hs8]
  refine branch_r (by omega) ?_
  simp -implicitDefEqProofs (disch := omega) only [go_sem, hs8]
  refine region_J (Plain.mono) (fun D E σ => E 2 = I cu ∧ E 3 = I how ∧ E 4 = I z ∧ E 5 = I w ∧ E 6 = I u ∧ E 15 = B true ∧ E 16 = .ptr 14680320 2 0 0 ∧ E 17 = .ptr 14680336 2 0 0 ∧ σ 14680320 = some ⟨26, 2, [LP K l]⟩ ∧ (D 7 = true → D 6 = true) ∧ (D 6 = true → D 3 = true) ∧ (D 6 = true → D 5 = true) ∧ (D 3 = true → D 2 = true) ∧ (D 3 = true → D 0 = true) ∧ (D 7 = true → D 2 = true) ∧ (D 7 = true → D 5 = true) ∧ (D 0 = true → D 3 = false → σ 14680800 = some ⟨3, 1, []⟩) ∧ (D 0 = true → D 3 = false → E 46 = .own 14680800 1 0 0) ∧ (D 3 = true → σ 14680800 = some ⟨3, 1, S1.map I⟩) ∧ (D 3 = true → E 49 = .own 14680800 1 0 8) ∧ (D 7 = false → σ 14680336 = some ⟨35, 2, [RP (S1, S2)]⟩) ∧ (D 7 = true → σ 14680336 = some ⟨35, 2, [.agg [.own 14680800 1 0 8, Str S2]]⟩) ∧ (D 1 = true → E 47 = .ptr 14680336 2 0 0) ∧ (D 2 = true → E 48 = SL S1) ∧ (D 4 = true → E 50 = .ptr 14680336 2 0 1) ∧ (D 5 = true → E 51 = Str S2) ∧ (D 6 = true → E 52 = .agg [.own 14680800 1 0 8, Str S2])) ?_ ?_ ?_
  · simp -implicitDefEqProofs (disch := omega) only [go_sem, hs8, h8t]
    simp
  · simp only [stepsJ, and_true]
    refine ⟨?_, ?_, ?_, ?_, ?_, ?_, ?_, ?_⟩
    · rintro D hD hd E σ ⟨e2, e3, e4, e5, e6, e15, e16, e17, s16, c7_6, c6_3, c6_5, c3_2, c3_0, c7_2, c7_5, m0_0, n0_0, m0_1, n0_1, m1_0, m1_1, j1, j2, j4, j5, j6⟩
      have hD : D 0 = false := hD
      simp -implicitDefEqProofs (disch := omega) only [go_sem, e2, e3, e4, e5, e6, e15, e16, e17, s16, hs8, h8t]
      repeat' apply And.intro
      all_goals first | assumption | (intro _; assumption) | trivial | (intro h; intros; have hh := (c3_0 h); rw [hD] at hh; cases hh; done) | (intro h; intros; have hh := (c3_0 (c6_3 h)); rw [hD] at hh; cases hh; done) | (intro h; intros; have hh := (c3_0 (c6_3 (c7_6 h))); rw [hD] at hh; cases hh; done) | (simp -implicitDefEqProofs (contextual := true) (disch := first | assumption | omega) only [go_sem, m0_1, n0_1, m1_0, m1_1, j1, j2, j4, j5, j6, m0_0, n0_0, implies_true, forall_const, false_implies, true_implies]; done) | (intro _; exact c3_2 (c6_3 d6)) | (intro _; exact c6_5 d6) | (intros; contradiction) | trace_state
    · rintro D hD hd E σ ⟨e2, e3, e4, e5, e6, e15, e16, e17, s16, c7_6, c6_3, c6_5, c3_2, c3_0, c7_2, c7_5, m0_0, n0_0, m0_1, n0_1, m1_0, m1_1, j1, j2, j4, j5, j6⟩
      have hD : D 1 = false := hD
      simp -implicitDefEqProofs (disch := omega) only [go_sem, e2, e3, e4, e5, e6, e15, e16, e17, s16, hs8, h8t]
      repeat' apply And.intro
      all_goals first | assumption | (intro _; assumption) | trivial | (simp -implicitDefEqProofs (contextual := true) (disch := first | assumption | omega) only [go_sem, m0_1, n0_1, m1_0, m1_1, j1, j2, j4, j5, j6, m0_0, n0_0, implies_true, forall_const, false_implies, true_implies]; done) | (intro _; exact c3_2 (c6_3 d6)) | (intro _; exact c6_5 d6) | (intros; contradiction) | trace_state
    · rintro D hD hd E σ ⟨e2, e3, e4, e5, e6, e15, e16, e17, s16, c7_6, c6_3, c6_5, c3_2, c3_0, c7_2, c7_5, m0_0, n0_0, m0_1, n0_1, m1_0, m1_1, j1, j2, j4, j5, j6⟩
      have hD : D 2 = false := hD
      have d1 : D 1 = true := hd ⟨1, .data⟩ (by simp) rfl
      have q1 := j1 d1
      have r1 : D 7 = false := by
        cases e : D 7 with
        | false => rfl
        | true => rw [(c7_2 e)] at hD; cases hD
      have g1 := m1_0 r1
      simp -implicitDefEqProofs (disch := omega) only [go_sem, e2, e3, e4, e5, e6, e15, e16, e17, s16, q1, g1, hs8, h8t]
      repeat' apply And.intro
      all_goals first | assumption | (intro _; assumption) | trivial | (intro h; intros; have hh := (c3_2 h); rw [hD] at hh; cases hh; done) | (intro h; intros; have hh := (c3_2 (c6_3 h)); rw [hD] at hh; cases hh; done) | (intro h; intros; have hh := (c7_2 h); rw [hD] at hh; cases hh; done) | (simp -implicitDefEqProofs (contextual := true) (disch := first | assumption | omega) only [go_sem, m0_1, n0_1, m1_0, m1_1, j1, j2, j4, j5, j6, m0_0, n0_0, implies_true, forall_const, false_implies, true_implies]; done) | (intro _; exact c3_2 (c6_3 d6)) | (intro _; exact c6_5 d6) | (intros; contradiction) | trace_state
    · rintro D hD hd E σ ⟨e2, e3, e4, e5, e6, e15, e16, e17, s16, c7_6, c6_3, c6_5, c3_2, c3_0, c7_2, c7_5, m0_0, n0_0, m0_1, n0_1, m1_0, m1_1, j1, j2, j4, j5, j6⟩
      have hD : D 3 = false := hD
      have d0 : D 0 = true := hd ⟨0, .data⟩ (by simp) rfl
      have d2 : D 2 = true := hd ⟨2, .data⟩ (by simp) rfl
      have q2 := j2 d2
      have g0 := m0_0 d0 hD
      have f0 := n0_0 d0 hD
      simp -implicitDefEqProofs (disch := omega) only [go_sem, e2, e3, e4, e5, e6, e15, e16, e17, s16, q2, g0, f0, hs8, h8t]
      repeat' apply And.intro
      all_goals first | assumption | (intro _; assumption) | trivial | (intro h; intros; have hh := (c6_3 h); rw [hD] at hh; cases hh; done) | (intro h; intros; have hh := (c6_3 (c7_6 h)); rw [hD] at hh; cases hh; done) | (simp -implicitDefEqProofs (contextual := true) (disch := first | assumption | omega) only [go_sem, m0_1, n0_1, m1_0, m1_1, j1, j2, j4, j5, j6, m0_0, n0_0, implies_true, forall_const, false_implies, true_implies]; done) | (intro _; exact c3_2 (c6_3 d6)) | (intro _; exact c6_5 d6) | (intros; contradiction) | trace_state
    · rintro D hD hd E σ ⟨e2, e3, e4, e5, e6, e15, e16, e17, s16, c7_6, c6_3, c6_5, c3_2, c3_0, c7_2, c7_5, m0_0, n0_0, m0_1, n0_1, m1_0, m1_1, j1, j2, j4, j5, j6⟩
      have hD : D 4 = false := hD
      simp -implicitDefEqProofs (disch := omega) only [go_sem, e2, e3, e4, e5, e6, e15, e16, e17, s16, hs8, h8t]
      repeat' apply And.intro
      all_goals first | assumption | (intro _; assumption) | trivial | (simp -implicitDefEqProofs (contextual := true) (disch := first | assumption | omega) only [go_sem, m0_1, n0_1, m1_0, m1_1, j1, j2, j4, j5, j6, m0_0, n0_0, implies_true, forall_const, false_implies, true_implies]; done) | (intro _; exact c3_2 (c6_3 d6)) | (intro _; exact c6_5 d6) | (intros; contradiction) | trace_state
    · rintro D hD hd E σ ⟨e2, e3, e4, e5, e6, e15, e16, e17, s16, c7_6, c6_3, c6_5, c3_2, c3_0, c7_2, c7_5, m0_0, n0_0, m0_1, n0_1, m1_0, m1_1, j1, j2, j4, j5, j6⟩
      have hD : D 5 = false := hD
      have d4 : D 4 = true := hd ⟨4, .data⟩ (by simp) rfl
      have q4 := j4 d4
      have r1 : D 7 = false := by
        cases e : D 7 with
        | false => rfl
        | true => rw [(c7_5 e)] at hD; cases hD
      have g1 := m1_0 r1
      simp -implicitDefEqProofs (disch := omega) only [go_sem, e2, e3, e4, e5, e6, e15, e16, e17, s16, q4, g1, hs8, h8t]
      repeat' apply And.intro
      all_goals first | assumption | (intro _; assumption) | trivial | (intro h; intros; have hh := (c6_5 h); rw [hD] at hh; cases hh; done) | (intro h; intros; have hh := (c7_5 h); rw [hD] at hh; cases hh; done) | (simp -implicitDefEqProofs (contextual := true) (disch := first | assumption | omega) only [go_sem, m0_1, n0_1, m1_0, m1_1, j1, j2, j4, j5, j6, m0_0, n0_0, implies_true, forall_const, false_implies, true_implies]; done) | (intro _; exact c3_2 (c6_3 d6)) | (intro _; exact c6_5 d6) | (intros; contradiction) | trace_state
    · rintro D hD hd E σ ⟨e2, e3, e4, e5, e6, e15, e16, e17, s16, c7_6, c6_3, c6_5, c3_2, c3_0, c7_2, c7_5, m0_0, n0_0, m0_1, n0_1, m1_0, m1_1, j1, j2, j4, j5, j6⟩
      have hD : D 6 = false := hD
      have d3 : D 3 = true := hd ⟨3, .data⟩ (by simp) rfl
      have d5 : D 5 = true := hd ⟨5, .data⟩ (by simp) rfl
      have q5 := j5 d5
      have g0 := m0_1 d3
      have f0 := n0_1 d3
      simp -implicitDefEqProofs (disch := omega) only [go_sem, e2, e3, e4, e5, e6, e15, e16, e17, s16, q5, g0, f0, hs8, h8t]
      repeat' apply And.intro
      all_goals first | assumption | (intro _; assumption) | trivial | (intro h; intros; have hh := (c7_6 h); rw [hD] at hh; cases hh; done) | (intro _ h; rw [d3] at h; cases h; done) | (intro h; rw [d3] at h; cases h; done) | (simp -implicitDefEqProofs (contextual := true) (disch := first | assumption | omega) only [go_sem, m0_1, n0_1, m1_0, m1_1, j1, j2, j4, j5, j6, m0_0, n0_0, implies_true, forall_const, false_implies, true_implies]; done) | (intro _; exact c3_2 (c6_3 d6)) | (intro _; exact c6_5 d6) | (intros; contradiction) | trace_state
    · rintro D hD hd E σ ⟨e2, e3, e4, e5, e6, e15, e16, e17, s16, c7_6, c6_3, c6_5, c3_2, c3_0, c7_2, c7_5, m0_0, n0_0, m0_1, n0_1, m1_0, m1_1, j1, j2, j4, j5, j6⟩
      have hD : D 7 = false := hD
      have d6 : D 6 = true := hd ⟨6, .data⟩ (by simp) rfl
      have q6 := j6 d6
      have g1 := m1_0 hD
      simp -implicitDefEqProofs (disch := omega) only [go_sem, e2, e3, e4, e5, e6, e15, e16, e17, s16, q6, g1, hs8, h8t]
      repeat' apply And.intro
      all_goals first | assumption | (intro _; assumption) | trivial | (intro _ h; rw [(c6_3 d6)] at h; cases h; done) | (intro h; rw [(c6_3 d6)] at h; cases h; done) | (simp -implicitDefEqProofs (contextual := true) (disch := first | assumption | omega) only [go_sem, m0_1, n0_1, m1_0, m1_1, j1, j2, j4, j5, j6, m0_0, n0_0, implies_true, forall_const, false_implies, true_implies]; done) | (intro _; exact c3_2 (c6_3 d6)) | (intro _; exact c6_5 d6) | (intros; contradiction) | trace_state
  · rintro D E σ hD ⟨e2, e3, e4, e5, e6, e15, e16, e17, s16, c7_6, c6_3, c6_5, c3_2, c3_0, c7_2, c7_5, m0_0, n0_0, m0_1, n0_1, m1_0, m1_1, j1, j2, j4, j5, j6⟩
    have g0 := m0_1 (hD 3 (by decide))
    have f0 := n0_1 (hD 3 (by decide))
    have g1 := m1_1 (hD 7 (by decide))
    have q1 := j1 (hD 1 (by decide))
    have q2 := j2 (hD 2 (by decide))
    have q4 := j4 (hD 4 (by decide))
    have q5 := j5 (hD 5 (by decide))
    have q6 := j6 (hD 6 (by decide))
    clear c7_6 c6_3 c6_5 c3_2 c3_0 c7_2 c7_5 m0_0 n0_0 m0_1 n0_1 m1_0 m1_1 j1 j2 j4 j5 j6 hD
    simp -implicitDefEqProofs (disch := omega) only [go_sem, e2, e3, e4, e5, e6, e15, e16, e17, s16, hs8, g0, g1]
    refine callC_at p3 ?_
    simp -implicitDefEqProofs (disch := omega) only [go_sem, e2, e3, e4, e5, e6, e15, e16, e17, s16, hs8, g0, g1]
    refine branch_join (fun E σ => E 2 = I cu ∧ E 3 = I how ∧ E 4 = I z ∧ E 5 = I w ∧ E 6 = I u ∧ E 15 = B true ∧ E 16 = .ptr 14680320 2 0 0 ∧ E 17 = .ptr 14680336 2 0 0 ∧ σ 14680320 = some ⟨26, 2, [LP K l]⟩ ∧ ∃ U : List Int, U.length = 8 ∧ (∀ n ∈ U, -2000000000000 ≤ n ∧ n ≤ 2000000000000) ∧ σ 14680800 = some ⟨3, 1, U.map I⟩ ∧ σ 14680336 = some ⟨35, 2, [.agg [.own 14680800 1 0 8, Str S2]]⟩) (fun h3 => ?_) (fun h3 => ?_) ?_
    · have hb1 := hsb _ (gd_mem S1 ia (by omega))
      have hU1 : (S1.set ia (gd S1 ia + 1)).length = 8 := by simp [hs8]
      have hUb : ∀ n ∈ S1.set ia (gd S1 ia + 1), -1500000000000 ≤ n ∧ n ≤ 1500000000000 := fun n hn => by
        rcases List.mem_or_eq_of_mem_set hn with h1 | h1
        · have := hsb n h1; omega
        · omega
      have hb2 := hUb _ (gd_mem (S1.set ia (gd S1 ia + 1)) ib (by omega))
      simp -implicitDefEqProofs (disch := omega) only [go_sem, e2, e3, e4, e5, e6, e15, e16, e17, s16, hs8, g0, g1]
      refine callC_at p8 ?_
      simp -implicitDefEqProofs (disch := omega) only [go_sem, e2, e3, e4, e5, e6, e15, e16, e17, s16, hs8, g0, g1]
      generalize S1.set ia (gd S1 ia + 1) = V at *
      simp -implicitDefEqProofs (disch := omega) only [go_sem, e2, e3, e4, e5, e6, e15, e16, e17, s16, hs8, g0, g1, hu8]
      refine callC_at p88 ?_
      simp -implicitDefEqProofs (disch := omega) only [go_sem, e2, e3, e4, e5, e6, e15, e16, e17, s16, hs8, hU1, g0, g1, hu8, and_self]
      refine ⟨V.set ib (gd V ib - 1), by simp [hU1], fun n hn => ?_, by rw [List.map_set]⟩
      rcases List.mem_or_eq_of_mem_set hn with h1 | h1
      · have := hUb n h1; omega
      · omega
    · simp -implicitDefEqProofs (disch := omega) only [go_sem, e2, e3, e4, e5, e6, e15, e16, e17, s16, hs8, g0, g1, and_self]
      exact ⟨S1, hs8, fun n hn => by have := hsb n hn; omega, rfl⟩
    clear e2 e3 e4 e5 e6 e15 e16 e17 s16 g0 f0 g1 q1 q2 q4 q5 q6 E σ
    rintro E σ ⟨e2, e3, e4, e5, e6, e15, e16, e17, s16, U, hU8, hUb, s46, s17⟩
    simp -implicitDefEqProofs (disch := omega) only [go_sem, e2, e3, e4, e5, e6, e15, e16, e17, s16, s46, s17]
    refine freeze_reg Plain.mono [14680800] ?_
    have hU8t : U.take 8 = U := List.take_of_length_le (by omega)
    simp -implicitDefEqProofs (disch := omega) only [go_sem, e2, e3, e4, e5, e6, e15, e16, e17, s16, s46, s17, hU8t, hU8]
    obtain ⟨A, hA⟩ : ∃ A : Nat → Acc, A = fun i : Nat => if (i : Int) = c10 then { bentF (ownA K l i) how z w with h := (i : Int) } else ownA K l i := ⟨_, rfl⟩
    obtain ⟨Hs, hHs⟩ : ∃ Hs : Nat → List ByteArray, Hs = fun v => (List.range v).flatMap fun i => hashedF (A i) := ⟨_, rfl⟩
    obtain ⟨TL, hTL⟩ : ∃ TL : Nat → List Int, TL = totL fun i => sumsF (A i).l := ⟨_, rfl⟩
    have hH0 : Hs 0 = [] := by rw [hHs]; rfl
    have hT0 : TL 0 = List.replicate 8 0 := by rw [hTL]; rfl
    have hT8 : ∀ v, (TL v).length = 8 := fun v => by rw [hTL]; simp [totL]
    have hHS : ∀ v, Hs (v + 1) = Hs v ++ hashedF (A v) := fun v => by rw [hHs]; simp only; rw [List.range_succ, List.flatMap_append]; simp
    have hHl : ∀ v : Nat, v ≤ 64 → (∀ i, i < v → checkF (U, S2) (A i) = true) → (Hs v).length ≤ 9 * v := fun v => by
      induction v with
      | zero => intro _ _; rw [hH0]; simp
      | succ v ih =>
        intro h1 h2
        have h3 := ih (by omega) fun i hi => h2 i (by omega)
        have h4 := hashed_len (check_acc (h2 v (by omega)))
        rw [hHS, List.length_append]; omega
    refine loopC_mk (fun n E σ => ∃ v : Nat, v + n = 64 ∧ E 2 = I cu ∧ E 3 = I how ∧ E 4 = I z ∧ E 5 = I w ∧ E 6 = I u ∧ E 15 = B true ∧ E 16 = .ptr 14680320 2 0 0 ∧ E 17 = .ptr 14680336 2 0 0 ∧ σ 14680320 = some ⟨26, 2, [LP K l]⟩ ∧ E 19 = .own 14681232 1 0 8 ∧ E 20 = .own 14680384 1 0 (Hs v).length ∧ E 21 = I v ∧ σ 14680336 = some ⟨35, 2, [RP (U, S2)]⟩ ∧ σ 14681232 = some ⟨3, 1, (TL v).map I⟩ ∧ σ 14680384 = some ⟨9, 1, (Hs v).map Str⟩ ∧ ∀ i, i < v → checkF (U, S2) (A i) = true) 64 ⟨0, by omega, ?_⟩ ?_
    · simp -implicitDefEqProofs (disch := omega) only [go_sem, e2, e3, e4, e5, e6, e15, e16, e17, s16, s46, s17, hU8t, hU8, hH0, hT0, and_self]
      simp [AV.namesL, AV.namesB]
    clear e2 e3 e4 e5 e6 e15 e16 e17 s16 s46 s17 E σ
    rintro n E σ ⟨v, hv, e2, e3, e4, e5, e6, e15, e16, e17, s16, e19, e20, e21, s17, s19, s20, hall⟩
    simp -implicitDefEqProofs (disch := omega) only [go_sem, e2, e3, e4, e5, e6, e15, e16, e17, s16, e19, e20, e21, s17, s19, s20]
    refine branch_mk (fun hc => ?_) (fun hc => ?_)
    · have hv64 : v < 64 := by omega
      have av := accOK_ev K l v (by omega) hok (by omega)
      have ov := own_ok K hg (by omega) v (by omega)
      simp -implicitDefEqProofs (disch := omega) only [go_sem, e2, e3, e4, e5, e6, e15, e16, e17, s16, e19, e20, e21, s17, s19, s20]
      refine callC_at av ?_
      simp -implicitDefEqProofs (disch := omega) only [go_sem, e2, e3, e4, e5, e6, e15, e16, e17, s16, e19, e20, e21, s17, s19, s20]
      refine callC_at p10 ?_
      simp -implicitDefEqProofs (disch := omega) only [go_sem, e2, e3, e4, e5, e6, e15, e16, e17, s16, e19, e20, e21, s17, s19, s20]
      obtain ⟨_, ⟨ov2, ov3⟩, _, ov5, ov6, ov7⟩ := accOK_iff ov
      have bv := bentA_ev ov how z w hhow hz hw
      have sv := bentF_small how z w ov2 ov6 (fun t ht => (ov7 t ht).1)
      have hAv : A v = if (v : Int) = c10 then { bentF (ownA K l v) how z w with h := (v : Int) } else ownA K l v := by rw [hA]
      have hsm : (A v).l.length ≤ 100 ∧ (A v).p.length ≤ 100 ∧ ∀ t ∈ (A v).p, t.1.length = 8 := by
        rw [hAv]; split
        · exact ⟨sv.1, by show (bentF (ownA K l v) how z w).p.length ≤ _; omega, sv.2.2⟩
        · exact ⟨by omega, by omega, fun t ht => (ov7 t ht).1⟩
      refine branch_join (fun E σ => E 2 = I cu ∧ E 3 = I how ∧ E 4 = I z ∧ E 5 = I w ∧ E 6 = I u ∧ E 15 = B true ∧ E 16 = .ptr 14680320 2 0 0 ∧ E 17 = .ptr 14680336 2 0 0 ∧ σ 14680320 = some ⟨26, 2, [LP K l]⟩ ∧ E 19 = .own 14681232 1 0 8 ∧ E 20 = .own 14680384 1 0 (Hs v).length ∧ E 21 = I v ∧ σ 14680336 = some ⟨35, 2, [RP (U, S2)]⟩ ∧ σ 14681232 = some ⟨3, 1, (TL v).map I⟩ ∧ σ 14680384 = some ⟨9, 1, (Hs v).map Str⟩ ∧ E 22 = .ptr 14680416 4 0 0 ∧ σ 14680416 = some ⟨51, 4, [AP (A v)]⟩) (fun hd => ?_) (fun hd => ?_) ?_
      · rw [if_pos hd] at hAv
        rw [hAv]
        simp -implicitDefEqProofs (disch := omega) only [go_sem, e2, e3, e4, e5, e6, e15, e16, e17, s16, e19, e20, e21, s17, s19, s20]
        refine callC_at bv ?_
        simp -implicitDefEqProofs (disch := omega) only [go_sem, e2, e3, e4, e5, e6, e15, e16, e17, s16, e19, e20, e21, s17, s19, s20, and_self]
      · rw [if_neg hd] at hAv
        rw [hAv]
        simp -implicitDefEqProofs (disch := omega) only [go_sem, e2, e3, e4, e5, e6, e15, e16, e17, s16, e19, e20, e21, s17, s19, s20, and_self]
      clear bv sv hAv ov2 ov3 ov5 ov6 ov7 e2 e3 e4 e5 e6 e15 e16 e17 s16 e19 e20 e21 s17 s19 s20 hc E σ
      rintro E σ ⟨e2, e3, e4, e5, e6, e15, e16, e17, s16, e19, e20, e21, s17, s19, s20, e22, s22⟩
      generalize hAv : A v = a at *
      simp -implicitDefEqProofs (disch := omega) only [go_sem, e2, e3, e4, e5, e6, e15, e16, e17, s16, e19, e20, e21, s17, s19, s20, e22, s22]
      have ce := check_ev (U, S2) a (by omega) (by omega) (show U.length ≤ _ by omega) (fun n hn => by have := hUb n hn; unfold R64; omega) (show S2.size ≤ _ by omega)
      refine callC_at ce ?_
      cases hck : checkF (U, S2) a with
      | false => simp -implicitDefEqProofs (disch := omega) only [go_sem, e2, e3, e4, e5, e6, e15, e16, e17, s16, e19, e20, e21, s17, s19, s20, e22, s22, Tryd.results6]
      | true =>
        have ha := check_acc hck
        have hch : chsOK a.l = true := by have h := ha; simp only [accOK, Bool.and_eq_true] at h; exact h.1.1.1.1.2
        simp -implicitDefEqProofs (disch := omega) only [go_sem, e2, e3, e4, e5, e6, e15, e16, e17, s16, e19, e20, e21, s17, s19, s20, e22, s22]
        refine callC_at (sumsOK_ev a.l (by omega) hch) ?_
        have hs8a := sumsF_len a.l
        simp -implicitDefEqProofs (disch := omega) only [go_sem, e2, e3, e4, e5, e6, e15, e16, e17, s16, e19, e20, e21, s17, s19, s20, e22, s22, hs8a]
        refine branch_r (by omega) ?_
        simp -implicitDefEqProofs (disch := omega) only [go_sem, e2, e3, e4, e5, e6, e15, e16, e17, s16, e19, e20, e21, s17, s19, s20, e22, s22, hs8a]
        have hTb : ∀ j, j < 8 → -7680000000000 ≤ gd (TL v) j ∧ gd (TL v) j ≤ 7680000000000 := fun j hj => by
          rw [hTL, totL_gd _ _ hj]
          have := totN_le (f := fun i => gd (sumsF (A i).l) j) (B := 120000000000) v fun i hi => acc_sums (check_acc (hall i hi)) hj
          omega
        have hTs : addU (TL v) (sumsF a.l) 8 = TL (v + 1) := gd_ext (by rw [addU_length, hT8]) fun j hj => by
          rw [addU_length] at hj
          rw [addU_gd _ _ _ hj, if_pos hj, hTL, totL_gd _ _ hj, totL_gd _ _ hj, totN, hAv]
        refine loopC_mk (fun n E σ => ∃ w' : Nat, w' + n = 8 ∧ E 2 = I cu ∧ E 3 = I how ∧ E 4 = I z ∧ E 5 = I w ∧ E 6 = I u ∧ E 15 = B true ∧ E 16 = .ptr 14680320 2 0 0 ∧ E 17 = .ptr 14680336 2 0 0 ∧ σ 14680320 = some ⟨26, 2, [LP K l]⟩ ∧ E 19 = .own 14681232 1 0 8 ∧ E 20 = .own 14680384 1 0 (Hs v).length ∧ E 21 = I v ∧ σ 14680336 = some ⟨35, 2, [RP (U, S2)]⟩ ∧ σ 14681232 = some ⟨3, 1, (addU (TL v) (sumsF a.l) w').map I⟩ ∧ σ 14680384 = some ⟨9, 1, (Hs v).map Str⟩ ∧ E 22 = .ptr 14680416 4 0 0 ∧ σ 14680416 = some ⟨51, 4, [AP a]⟩ ∧ E 24 = SL (sumsF a.l) ∧ E 26 = I w') 8 ⟨0, by omega, ?_⟩ ?_
        · simp -implicitDefEqProofs (disch := omega) only [go_sem, e2, e3, e4, e5, e6, e15, e16, e17, s16, e19, e20, e21, s17, s19, s20, e22, s22, hs8a, addU_zero (hT8 v), and_self]
          simp
        clear e2 e3 e4 e5 e6 e15 e16 e17 s16 e19 e20 e21 s17 s19 s20 e22 s22 E σ
        rintro m E σ ⟨w', hw', e2, e3, e4, e5, e6, e15, e16, e17, s16, e19, e20, e21, s17, s19, s20, e22, s22, e24, e26⟩
        have hU8 := addU_length (TL v) (sumsF a.l) w'
        simp -implicitDefEqProofs (disch := omega) only [go_sem, e2, e3, e4, e5, e6, e15, e16, e17, s16, e19, e20, e21, s17, s19, s20, e22, s22, e24, e26, hs8a, hU8]
        refine branch_mk (fun hc => ?_) (fun hc => ?_)
        · have hb1 := acc_sums ha (j := w') (by omega)
          have hb2 := hTb w' (by omega)
          have hb3 := addU_gd (TL v) (sumsF a.l) w' (j := w') (by omega)
          rw [if_neg (by omega)] at hb3
          have hb4 : -7680000000000 ≤ gd (addU (TL v) (sumsF a.l) w') w' ∧ gd (addU (TL v) (sumsF a.l) w') w' ≤ 7680000000000 := by rw [hb3]; exact hb2
          have hst := addU_set (TL v) (sumsF a.l) w' (by omega)
          simp -implicitDefEqProofs (disch := omega) only [go_sem, e2, e3, e4, e5, e6, e15, e16, e17, s16, e19, e20, e21, s17, s19, s20, e22, s22, e24, e26, hs8a, hU8]
          refine againQ_mk (m - 1) (by omega) ⟨w' + 1, by omega, ?_⟩
          rw [← hst]
          simp -implicitDefEqProofs (disch := omega) only [go_sem, e2, e3, e4, e5, e6, e15, e16, e17, s16, e19, e20, e21, s17, s19, s20, e22, s22, e24, e26, hs8a, hU8, and_self]
          try simp
        · obtain rfl : w' = 8 := by omega
          rw [hTs] at s19
          have hh := hashedA_ev hsm.1 hsm.2.1 hsm.2.2
          simp -implicitDefEqProofs (disch := omega) only [go_sem, e2, e3, e4, e5, e6, e15, e16, e17, s16, e19, e20, e21, s17, s19, s20, e22, s22]
          refine callC_at hh ?_ (h4 := .inr (dn_SLs _))
          have hl1 := hHl v (by omega) hall
          have hl2 := hashed_len ha
          have hHS' := hHS v
          rw [hAv] at hHS'
          have hlen : (Hs (v + 1)).length = (Hs v).length + (hashedF a).length := by rw [hHS', List.length_append]
          have hmp : (Hs v).map Str ++ (hashedF a).map Str = (Hs (v + 1)).map Str := by rw [hHS', List.map_append]
          simp -implicitDefEqProofs (disch := omega) only [go_sem, e2, e3, e4, e5, e6, e15, e16, e17, s16, e19, e20, e21, s17, s19, s20, e22, s22, List.take_length, hmp]
          refine againQ_mk (n - 1) (by omega) ⟨v + 1, by omega, ?_⟩
          rw [hlen]
          simp -implicitDefEqProofs (disch := omega) only [go_sem, e2, e3, e4, e5, e6, e15, e16, e17, s16, e19, e20, e21, s17, s19, s20, e22, s22, List.take_length, hmp, and_self]
          refine ⟨by simp, fun i hi => ?_⟩
          by_cases e : i = v
          · subst e; rw [hAv]; exact hck
          · exact hall i (by omega)
    · obtain rfl : v = 64 := by omega
      have ht8 := hT8 64
      have htt : (TL 64).take 8 = TL 64 := List.take_of_length_le (by omega)
      have hl1 := hHl 64 (by omega) hall
      have hAh : ∀ i, i < 64 → (A i).h = (i : Int) := fun i _ => by
        rw [hA]; simp only; split
        · rfl
        · rfl
      have hin : ∀ i, i < 64 → ∀ x ∈ hashedF (A i), x ∈ Hs 64 := fun i hi x hx => by
        rw [hHs]; exact List.mem_flatMap.2 ⟨i, List.mem_range.2 hi, hx⟩
      have hsz : ∀ x ∈ Hs 64, x.size ≤ 100000000 := fun x hx => by
        rw [hHs] at hx
        obtain ⟨i, hi, hx⟩ := List.mem_flatMap.1 hx
        have := hashed_size (check_acc (hall i (List.mem_range.1 hi))) x hx
        omega
      have hor : TL 64 = U ∨ collF (Hs 64) (Hs 64) = true := by
        by_cases hc : Coll (Hs 64) (Hs 64)
        · exact .inr (collF_iff.2 hc)
        · refine .inl (gd_ext (by omega) fun j hj => ?_)
          rw [hTL, totL_gd _ _ (by omega)]
          exact together (U, S2) A (Hs 64) hall hAh hin hc (by omega)
      simp -implicitDefEqProofs (disch := omega) only [go_sem, e2, e3, e4, e5, e6, e15, e16, e17, s16, e19, e20, e21, s17, s19, s20, ht8, htt]
      refine callC_at (intsR_ev (TL 64) U (by omega) (by omega)) ?_
      by_cases heq : TL 64 = U
      · rw [decide_eq_true heq]
        simp -implicitDefEqProofs (disch := omega) only [go_sem, e2, e3, e4, e5, e6, e15, e16, e17, s16, e19, e20, e21, s17, s19, s20, Tryd.results6]
      · rw [decide_eq_false heq]
        have hco := hor.resolve_left heq
        have cc := collided_ev (Hs 64) (Hs 64) (by omega) (by omega) hsz hsz
        rw [hco] at cc
        simp -implicitDefEqProofs (disch := omega) only [go_sem, e2, e3, e4, e5, e6, e15, e16, e17, s16, e19, e20, e21, s17, s19, s20, List.take_length]
        refine callC_at cc ?_
        simp -implicitDefEqProofs (disch := omega) only [go_sem, e2, e3, e4, e5, e6, e15, e16, e17, s16, e19, e20, e21, s17, s19, s20, Tryd.results6]
end Go.Proofs.YtgbcfpcjljhijaaDoor
set_option maxRecDepth 100000
namespace Go.Proofs.YtgbcfpcjljhijaaDoor
open Go.Vai Go Go.Proofs
open Nat (reduceEqDiff reduceMul reduceAdd reduceDiv reduceLeDiff)
open Int (reduceToNat reduceNe reduceEq reduceLT reduceLE)
theorem auditTogether_lifted (os : Os) (started : os.Started) (H : Type) (enc : TypeId × Value → H) :
    ReturnsInHanded {} Tryd.checked os 6 .any (fun w args => (Rows.auditTogetherSpec.pre enc Tryd.prog Tryd.f6 [] false w args ∧ laidMetH Tryd.prog laid3 w) ∧ sizedMet enc Tryd.prog Tryd.f6 (OpenSpec.ofChange Rows.auditTogetherSpec) false w args)
      (Rows.auditTogetherSpec.post enc Tryd.prog Tryd.f6 false true false false) :=
  liftedG (C := Tryd.checked) (tb := 4) (ps := [OI, OFL, OI, OI, OI, OI, OI]) (X := fun w _ => laidMetH Tryd.prog laid3 w) (fun _ _ _ hh h => h.of_heap hh) own3 started (by kernel_rfl) Tryd.func6
    (ChangeSpec.witness_shaped (enc := enc) (C := Tryd.checked) (os := os) (X := fun w _ => laidMetH Tryd.prog laid3 w) false (World.doorLaid Tryd.prog 14 os) #[.int .i64 0, .slice none 0 0, .int .i64 0, .int .i64 0, .int .i64 0, .int .i64 0, .int .i64 0] 8 rfl (World.shaped_of_RefB (by kernel_rfl) (by kernel_rfl)) (by kernel_rfl) (by kernel_rfl) (by kernel_rfl) (door_met os _))
    laidOut3 (by kernel_rfl) (by kernel_rfl) (by kernel_rfl) rfl (len_7 fun _ _ _ _ _ _ _ => rfl)
    (fun w => ⟨o_int (by kernel_rfl), o_fives, o_int (by kernel_rfl), o_int (by kernel_rfl), o_int (by kernel_rfl), o_int (by kernel_rfl), o_int (by kernel_rfl), trivial⟩)
    (allP_7 fun a0 a1 a2 a3 a4 a5 a6 h0 h1 h2 h3 h4 h5 h6 => by
      obtain ⟨x0, hx0, rfl⟩ := h0
      obtain ⟨x1, hx1, hr1, rfl⟩ := h1
      obtain ⟨x2, hx2, rfl⟩ := h2
      obtain ⟨x3, hx3, rfl⟩ := h3
      obtain ⟨x4, hx4, rfl⟩ := h4
      obtain ⟨x5, hx5, rfl⟩ := h5
      obtain ⟨x6, hx6, rfl⟩ := h6
      exact togethers_ev x0 x1 x2 x3 x4 x5 x6 hx0 hx1 hr1 hx2 hx3 hx4 hx5 hx6)
    (fun _ _ h => gok h)
theorem auditTogether_row : Rows.AuditTogetherSaid :=
  OpenClaim.holds_of_wide 6 Tryd.f6 rfl rfl rfl rfl rfl rfl rfl ⟨rfl, rfl, rfl, rfl, rfl⟩ rfl rfl rfl rfl rfl (by kernel_rfl) Tryd.func6 (by kernel_rfl)
    (of_decide_eq_true (by kernel_rfl)) (by unfold Func.isWrapper; first | (rw [if_pos (by decide +kernel)]; kernel_rfl) | (rw [if_neg (by decide +kernel)]; exact ⟨rfl, rfl⟩))
    (fun os started H enc _ => auditTogether_lifted os started H enc)
theorem auditTogether_holds : Rows.AuditTogetherCardSaid :=
  Claim7.holds_tied_plain_at .later [] [.data] true (true, "15e72945ea0d842684219eb61c4c3078e08fef8eedac21bc7f2d20fbaca9026f") false
    auditTogether_row (fun _ h => by cases h) (by kernel_rfl) (fun _ h => by cases h) auditTogether_row_tie rfl ⟨rfl, rfl⟩ (by kernel_rfl) rfl
    (fun f fn hf hfn => by
      obtain rfl : f = 6 := Option.some.inj ((show Tryd.prog.funcNamed "dialtone/dialtonelaw40.AuditTogether" = some 6 by kernel_rfl).symm.trans hf) |>.symm
      obtain rfl : fn = Tryd.f6 := (Option.some.inj (Tryd.func6.symm.trans hfn)).symm
      exact ⟨by kernel_rfl, fun j t ht => by
          rw [Tryd.params6] at ht
          rcases j with _ | j
          · obtain rfl : t = 3 := by simpa using ht.symm
            exact (show Tryd.prog.wantsStandIn 3 = false by kernel_rfl)
          rcases j with _ | j
          · obtain rfl : t = 22 := by simpa using ht.symm
            exact (show Tryd.prog.wantsStandIn 22 = false by kernel_rfl)
          rcases j with _ | j
          · obtain rfl : t = 3 := by simpa using ht.symm
            exact (show Tryd.prog.wantsStandIn 3 = false by kernel_rfl)
          rcases j with _ | j
          · obtain rfl : t = 3 := by simpa using ht.symm
            exact (show Tryd.prog.wantsStandIn 3 = false by kernel_rfl)
          rcases j with _ | j
          · obtain rfl : t = 3 := by simpa using ht.symm
            exact (show Tryd.prog.wantsStandIn 3 = false by kernel_rfl)
          rcases j with _ | j
          · obtain rfl : t = 3 := by simpa using ht.symm
            exact (show Tryd.prog.wantsStandIn 3 = false by kernel_rfl)
          rcases j with _ | j
          · obtain rfl : t = 3 := by simpa using ht.symm
            exact (show Tryd.prog.wantsStandIn 3 = false by kernel_rfl)
          simp at ht⟩)
    (by kernel_rfl)
#print axioms auditTogether_holds
end Go.Proofs.YtgbcfpcjljhijaaDoor

/- Chapter 40, AuditBinds: an account that has been changed is no longer accepted against the seal, unless two of the hashed strings collide, and a changed total accepts the true account no more. Conditions: the package variable digest.round reads as the program's text lays it (tied). -/
import Derived.Test.YtgbcfpcjljhijaaDoorKI
set_option linter.unusedVariables false
set_option linter.unusedSimpArgs false
namespace Go.Vai
open Go.RowKit Go.ChangeShapes Go.WideShapes
theorem allP_6 {pa0 pa1 pa2 pa3 pa4 pa5 : AV → Prop} {Q : List AV → Prop} (h : ∀ a0 a1 a2 a3 a4 a5, pa0 a0 → pa1 a1 → pa2 a2 → pa3 a3 → pa4 a4 → pa5 a5 → Q [a0, a1, a2, a3, a4, a5]) : ∀ l, AllP [pa0, pa1, pa2, pa3, pa4, pa5] l → Q l
  | [a0, a1, a2, a3, a4, a5], ha => h a0 a1 a2 a3 a4 a5 ha.1 ha.2.1 ha.2.2.1 ha.2.2.2.1 ha.2.2.2.2.1 ha.2.2.2.2.2.1
  | [], ha => (ha : False).elim
  | [_], ha => (ha.2 : False).elim
  | [_, _], ha => (ha.2.2 : False).elim
  | [_, _, _], ha => (ha.2.2.2 : False).elim
  | [_, _, _, _], ha => (ha.2.2.2.2 : False).elim
  | [_, _, _, _, _], ha => (ha.2.2.2.2.2 : False).elim
  | _ :: _ :: _ :: _ :: _ :: _ :: _ :: _, ha => (ha.2.2.2.2.2.2 : False).elim
theorem len_6 {T : Type} {Q : List T → Prop} (h : ∀ a0 a1 a2 a3 a4 a5, Q [a0, a1, a2, a3, a4, a5]) : ∀ l : List T, l.length = 6 → Q l
  | [a0, a1, a2, a3, a4, a5], _ => h a0 a1 a2 a3 a4 a5
  | [], hl => by simp at hl
  | [_], hl => by simp at hl
  | [_, _], hl => by simp at hl
  | [_, _, _], hl => by simp at hl
  | [_, _, _, _], hl => by simp at hl
  | [_, _, _, _, _], hl => by simp at hl
  | _ :: _ :: _ :: _ :: _ :: _ :: _ :: _, hl => by simp at hl
end Go.Vai
set_option maxRecDepth 100000
namespace Go.Proofs.YtgbcfpcjljhijaaDoor
open Go.Vai Go Go.Proofs
open Nat (reduceEqDiff reduceMul reduceAdd reduceDiv reduceLeDiff)
open Int (reduceToNat reduceNe reduceEq reduceLT reduceLE)
def bentC (c : Ch) (how x : Int) : Ch :=
  if pickF how 5 = 0 then { c with h := x } else if pickF how 5 = 1 then { c with p := x } else if pickF how 5 = 2 then { c with q := x } else if pickF how 5 = 3 then { c with a := x } else { c with t := c.t ++ ⟨#[120]⟩ }
theorem bentC_ev (c : Ch) (how x : Int) (hh : R64 how) (ht : c.t.size ≤ 1000) : Ev Tryd.prog 14 [CH c, I how, I x] (CH (bentC c how x)) := by
  have hp := pickR_ev how 5 hh (by omega)
  unfold bentC
  generalize pickF how 5 = k at *
  have hz : c.t.size + #[(120 : UInt8)].size ≤ 9223372036854775807 := by simp; omega
  refine ev_of Tryd.func14 rfl (by kernel_rfl) mo (Nat.le_of_ble_eq_true rfl) ?_
  simp -implicitDefEqProofs (disch := omega) only [go_sem, Tryd.ntmps14]
  refine callC_at hp ?_
  simp -implicitDefEqProofs (disch := omega) only [go_sem]
  refine branch_mk (fun h => ?_) (fun h => ?_)
  · simp -implicitDefEqProofs (disch := omega) only [go_sem, h, and_self, Tryd.results14]
  simp -implicitDefEqProofs (disch := omega) only [go_sem, h]
  refine branch_mk (fun h1 => ?_) (fun h1 => ?_)
  · simp -implicitDefEqProofs (disch := omega) only [go_sem, h1, and_self, Tryd.results14]
  simp -implicitDefEqProofs (disch := omega) only [go_sem, h, h1]
  refine branch_mk (fun h2 => ?_) (fun h2 => ?_)
  · simp -implicitDefEqProofs (disch := omega) only [go_sem, h2, and_self, Tryd.results14]
  simp -implicitDefEqProofs (disch := omega) only [go_sem, h, h1, h2]
  refine branch_mk (fun h3 => ?_) (fun h3 => ?_)
  · simp -implicitDefEqProofs (disch := omega) only [go_sem, h3, and_self, Tryd.results14]
  simp -implicitDefEqProofs (disch := omega) only [go_sem, h, h1, h2, h3, and_self, hz, Tryd.results14]
def collF (a b : List ByteArray) : Bool := a.any fun x => b.any fun y => decide (x ≠ y ∧ shaF x = shaF y)
theorem collF_iff {a b : List ByteArray} : collF a b = true ↔ Coll a b := by
  simp only [collF, List.any_eq_true, decide_eq_true_eq]; rfl
theorem collF_no {a b : List ByteArray} (h : ∀ i, i < a.length → ∀ j, j < b.length → ¬ (gd a i ≠ gd b j ∧ shaF (gd a i) = shaF (gd b j))) : collF a b = false := by
  cases e : collF a b with
  | false => rfl
  | true =>
    obtain ⟨x, hx, y, hy, hn⟩ := collF_iff.1 e
    obtain ⟨i, hi, rfl⟩ := List.mem_iff_getElem.1 hx
    obtain ⟨j, hj, rfl⟩ := List.mem_iff_getElem.1 hy
    have := h i hi j hj
    rw [gd_get _ i hi, gd_get _ j hj] at this
    exact (this hn).elim
theorem collided_ev (a b : List ByteArray) (ha : a.length ≤ 1000000) (hb : b.length ≤ 1000000) (has : ∀ x ∈ a, x.size ≤ 100000000) (hbs : ∀ x ∈ b, x.size ≤ 100000000) : Ev Tryd.prog 33 [SLs a, SLs b] (B (collF a b)) := by
  refine ev_of Tryd.func33 rfl (by kernel_rfl) mo (Nat.le_of_ble_eq_true rfl) ?_
  simp -implicitDefEqProofs (disch := omega) only [go_sem, Tryd.ntmps33]
  refine loopC_mk (fun n E σ => ∃ v : Nat, v + n = b.length ∧ E 0 = SLs a ∧ E 1 = SLs b ∧ E 5 = .own 71303248 1 0 v ∧ E 6 = I v ∧ σ 71303248 = some ⟨9, 1, ((b.take v).map shaF).map Str⟩) b.length ⟨0, by omega, ?_⟩ ?_
  · simp -implicitDefEqProofs (disch := omega) only [go_sem]
    simp
  rintro n E σ ⟨v, hv, h0, h1, h5, h6, s5⟩
  simp -implicitDefEqProofs (disch := omega) only [go_sem, h0, h1, h5, h6, s5]
  refine branch_mk (fun hc => ?_) (fun hc => ?_)
  · simp -implicitDefEqProofs (disch := omega) only [go_sem, h0, h1, h5, h6, s5]
    refine callC_at (sumR_ev (gd b v) (hbs _ (gd_mem b v (by omega)))) ?_
    have hvl : (b.take v).length = v := by rw [List.length_take]; omega
    have hvt : (b.take v).take v = b.take v := by rw [List.take_take, Nat.min_self]
    have htk : (b.take (v + 1)).map shaF = (b.take v).map shaF ++ [shaF (gd b v)] := by rw [List.take_add_one, gd_some b v (by omega)]; simp
    simp -implicitDefEqProofs (disch := omega) only [go_sem, h0, h1, h5, h6, s5, hvl, hvt, htk.symm]
    refine againQ_mk (n - 1) (by omega) ⟨v + 1, by omega, ?_⟩
    simp -implicitDefEqProofs (disch := omega) only [go_sem, h0, h1, h5, h6, s5]
    simp
  obtain rfl : v = b.length := by omega
  rw [List.take_length] at s5
  simp -implicitDefEqProofs (disch := omega) only [go_sem, h0, h1, h5, h6, s5]
  refine loopC_mk (fun n E σ => ∃ v : Nat, v + n = a.length ∧ E 0 = SLs a ∧ E 1 = SLs b ∧ E 5 = .own 71303248 1 0 b.length ∧ E 7 = I v ∧ σ 71303248 = some ⟨9, 1, (b.map shaF).map Str⟩ ∧ ∀ i, i < v → ∀ j, j < b.length → ¬ (gd a i ≠ gd b j ∧ shaF (gd a i) = shaF (gd b j))) a.length ⟨0, by omega, ?_⟩ ?_
  · simp -implicitDefEqProofs (disch := omega) only [go_sem, h0, h1, h5, h6, s5]
    simp
  clear h0 h1 h5 h6 s5 hc E σ
  rintro n E σ ⟨v, hv, h0, h1, h5, h7, s5, hn⟩
  simp -implicitDefEqProofs (disch := omega) only [go_sem, h0, h1, h5, h7, s5]
  refine branch_mk (fun hc => ?_) (fun hc => ?_)
  · simp -implicitDefEqProofs (disch := omega) only [go_sem, h0, h1, h5, h7, s5]
    refine callC_at (sumR_ev (gd a v) (has _ (gd_mem a v (by omega)))) ?_
    simp -implicitDefEqProofs (disch := omega) only [go_sem, h0, h1, h5, h7, s5]
    refine loopC_mk (fun n E σ => ∃ w : Nat, w + n = b.length ∧ E 0 = SLs a ∧ E 1 = SLs b ∧ E 5 = .own 71303248 1 0 b.length ∧ E 7 = I v ∧ E 8 = Str (shaF (gd a v)) ∧ E 9 = I w ∧ σ 71303248 = some ⟨9, 1, (b.map shaF).map Str⟩ ∧ ∀ j, j < w → ¬ (gd a v ≠ gd b j ∧ shaF (gd a v) = shaF (gd b j))) b.length ⟨0, by omega, ?_⟩ ?_
    · simp -implicitDefEqProofs (disch := omega) only [go_sem, h0, h1, h5, h7, s5]
      simp
    clear h0 h1 h5 h7 s5 E σ
    rintro m E σ ⟨w, hw, h0, h1, h5, h7, h8, h9, s5, hm⟩
    simp -implicitDefEqProofs (disch := omega) only [go_sem, h0, h1, h5, h7, h8, h9, s5]
    refine branch_mk (fun hc => ?_) (fun hc => ?_)
    · have hgm : gd (b.map shaF) w = shaF (gd b w) := by rw [gd_get _ w (by simp; omega), gd_get _ w (by omega), List.getElem_map]
      simp -implicitDefEqProofs (disch := omega) only [go_sem, h0, h1, h5, h7, h8, h9, s5, str_beq]
      refine branch_mk (fun hd => ?_) (fun hd => ?_)
      · simp -implicitDefEqProofs (disch := omega) only [go_sem, h0, h1, h5, h7, h8, h9, s5, str_beq]
        refine branch_mk (fun he => ?_) (fun he => ?_)
        · have hC : collF a b = true := collF_iff.2 ⟨_, gd_mem a v (by omega), _, gd_mem b w (by omega), hd, by simpa [hgm] using he⟩
          simp -implicitDefEqProofs (disch := omega) only [go_sem, h0, h1, h5, h7, h8, h9, s5, hC, Tryd.results33]
        · simp -implicitDefEqProofs (disch := omega) only [go_sem, h0, h1, h5, h7, h8, h9, s5, str_beq]
          refine againQ_mk (m - 1) (by omega) ⟨w + 1, by omega, ?_⟩
          simp -implicitDefEqProofs (disch := omega) only [go_sem, h0, h1, h5, h7, h8, h9, s5]
          refine ⟨by simp, fun j hj => ?_⟩
          by_cases e : j = w
          · subst e
            intro h; exact he (by simpa [hgm] using h.2)
          · exact hm j (by omega)
      · simp -implicitDefEqProofs (disch := omega) only [go_sem, h0, h1, h5, h7, h8, h9, s5, str_beq]
        refine againQ_mk (m - 1) (by omega) ⟨w + 1, by omega, ?_⟩
        simp -implicitDefEqProofs (disch := omega) only [go_sem, h0, h1, h5, h7, h8, h9, s5]
        refine ⟨by simp, fun j hj => ?_⟩
        by_cases e : j = w
        · subst e
          intro h; exact hd h.1
        · exact hm j (by omega)
    · simp -implicitDefEqProofs (disch := omega) only [go_sem, h0, h1, h5, h7, h8, h9, s5]
      refine againQ_mk (n - 1) (by omega) ⟨v + 1, by omega, ?_⟩
      simp -implicitDefEqProofs (disch := omega) only [go_sem, h0, h1, h5, h7, h8, h9, s5]
      refine ⟨by simp, fun i hi j hj => ?_⟩
      by_cases e : i = v
      · subst e; exact hm j (by omega)
      · exact hn i (by omega) j hj
  · have hC := collF_no (a := a) (b := b) fun i hi j hj => hn i (by omega) j hj
    simp -implicitDefEqProofs (disch := omega) only [go_sem, h0, h1, h5, h7, s5, hC, Tryd.results33]
end Go.Proofs.YtgbcfpcjljhijaaDoor
set_option maxRecDepth 100000
namespace Go.Proofs.YtgbcfpcjljhijaaDoor
open Go.Vai Go Go.Proofs
open Nat (reduceEqDiff reduceMul reduceAdd reduceDiv reduceLeDiff)
open Int (reduceToNat reduceNe reduceEq reduceLT reduceLE)
def bentF (a : Acc) (how x y : Int) : Acc :=
  if pickF how 8 = 0 ∨ pickF how 8 = 1 then
    (if 0 < a.l.length then { a with l := a.l.set (pickF y a.l.length).toNat (bentC (gd a.l (pickF y a.l.length).toNat) (how.tdiv 8) x) } else { a with l := [⟨a.h, 0, 1, pickF x 100, ByteArray.empty⟩] })
  else if pickF how 8 = 2 then { a with s := shaF a.s }
  else if pickF how 8 = 3 then { a with h := x }
  else if pickF how 8 = 4 then { a with p := a.p.set (pickF y 6).toNat ((gd a.p (pickF y 6).toNat).1.set (pickF x 8).toNat (gd (gd a.p (pickF y 6).toNat).1 (pickF x 8).toNat + (1 + pickF x 9)), (gd a.p (pickF y 6).toNat).2) }
  else if pickF how 8 = 5 then { a with p := a.p.set (pickF y 6).toNat ((gd a.p (pickF y 6).toNat).1, shaF (gd a.p (pickF y 6).toNat).2) }
  else if pickF how 8 = 6 then { a with p := a.p.take 5 }
  else if 0 < a.l.length then { a with l := a.l.take (a.l.length - 1) } else { a with s := ByteArray.empty }
section
variable (π : Nat → Nat)
@[go_sem] theorem rnL_CH (l : List Ch) : AV.rnL π (l.map CH) = l.map CH := AV.rnL_free π _ (namesL_CH _ l)
@[go_sem] theorem rnL_I (l : List Int) : AV.rnL π (l.map I) = l.map I := AV.rnL_free π _ (namesL_map _ l I fun _ => rfl)
@[go_sem] theorem rnL_RP (l : List Tot) : AV.rnL π (l.map RP) = l.map RP := AV.rnL_free π _ (namesL_map _ l RP fun _ => rfl)
end
def elR (X : Nat) (t : Tot) : AV := .agg [.own X 1 0 8, Str t.2]
def lsR (X j : Nat) (t : Tot) (p : List Tot) : List AV := (p.map RP).set j (elR X t)
theorem lsR_len (X j : Nat) (t : Tot) (p : List Tot) : (lsR X j t p).length = p.length := by simp [lsR]
theorem lsR_ge {X j : Nat} {t : Tot} {p : List Tot} (h : p.length ≤ j) : lsR X j t p = p.map RP := by
  unfold lsR; rw [List.set_eq_of_length_le (by simpa using h)]
theorem lsR_map (X j : Nat) (t : Tot) (p : List Tot) (f : AV → AV) (h : ∀ t, f (RP t) = RP t) : (lsR X j t p).map f = (p.map RP).set j (f (elR X t)) := by
  unfold lsR; rw [List.map_set, List.map_map]; congr 1
  exact List.map_congr_left fun t _ => h t
theorem frz_RP (q r : Nat → Bool) (σ : Store) (t : Tot) : frzE q r σ (RP t) = RP t := by
  simp -implicitDefEqProofs (disch := omega) only [go_sem]
theorem namesL_set (q : Nat → Bool) (e : AV) (he : AV.namesB q e = false) : ∀ (l : List AV) (j : Nat), AV.namesL q l = false → AV.namesL q (l.set j e) = false
  | [], _, _ => rfl
  | c :: l, 0, h => by simp only [AV.namesL, Bool.or_eq_false_iff] at h; simp [AV.namesL, he, h.2]
  | c :: l, j + 1, h => by simp only [AV.namesL, Bool.or_eq_false_iff] at h; simp [AV.namesL, h.1, namesL_set q e he l j h.2]
def normQ (J : Env → Store → Prop) : Exit → Env → Store → Prop
  | .normal => J
  | _ => fun _ _ => False
@[go_sem] theorem normQ_normal (J : Env → Store → Prop) (E : Env) (σ : Store) : normQ J .normal E σ = J E σ := rfl
theorem normQ_h {J : Env → Store → Prop} {Q : Exit → Env → Store → Prop} (h : ∀ E σ, J E σ → Q .normal E σ) : ∀ e E σ, normQ J e E σ → Q e E σ
  | .normal, E, σ, hj => h E σ hj
  | .exit _, _, _, hj => hj.elim
  | .ret, _, _, hj => hj.elim
theorem branch_nq {S : Sp} [hp : Plain S] {c : Prop} {a1 a2 : Code} {Q : Exit → Env → Store → Prop} {E E' : Env} {σ : Store} (J : Env → Store → Prop) (h1 : c → awpC S a1 (normQ J) E σ) (h2 : ¬ c → awpC S a2 (normQ J) E' σ) (h3 : ∀ E σ, J E σ → Q .normal E σ) :
    branch c (awpC S a1 Q) E (awpC S a2 Q) E' σ :=
  ⟨fun e => awpC_mono hp.mono a1 (normQ_h h3) (h1 e), fun e => awpC_mono hp.mono a2 (normQ_h h3) (h2 e)⟩
def PathFrz (X : Nat) (o : Option Blk) (pv : List AV) (pp : List Tot) : Prop := ∀ σ : Store, σ X = o → frzB (notI (inI [X])) (inL []) σ ⟨35, 2, pv⟩ = ⟨35, 2, pp.map RP⟩
theorem pathFrz_RP (X : Nat) (o : Option Blk) (p : List Tot) : PathFrz X o (p.map RP) p := fun σ _ => by
  simp -implicitDefEqProofs (disch := omega) only [go_sem]
theorem pathFrz_eq (X : Nat) (o : Option Blk) {pv : List AV} {pp : List Tot} (h : pv = pp.map RP) : PathFrz X o pv pp := by subst h; exact pathFrz_RP X o pp
theorem namesL_last (q : Nat → Bool) : ∀ (l : List AV) (e : AV), AV.namesB q e = true → AV.namesL q (l ++ [e]) = true
  | [], e, h => by simp [AV.namesL, h]
  | c :: l, e, h => by simp [AV.namesL, namesL_last q l e h]
theorem namesL_snoc (q : Nat → Bool) : ∀ (l : List AV) (e : AV), AV.namesL q l = false → AV.namesB q e = false → AV.namesL q (l ++ [e]) = false
  | [], e, _, h => by simp [AV.namesL, h]
  | c :: l, e, hl, h => by
    simp only [AV.namesL, Bool.or_eq_false_iff] at hl
    simp [AV.namesL, hl.1, namesL_snoc q l e hl.2 h]
theorem lsR_names {X j : Nat} {t : Tot} {p : List Tot} {q : Nat → Bool} (h : q X = false) : AV.namesL q (lsR X j t p) = false :=
  namesL_set q _ (by simp [elR, AV.namesB, AV.namesL, h]) _ _ (namesL_map q p RP fun _ => rfl)
theorem lsR_ne {X j : Nat} {t u : Tot} {p : List Tot} (h : p.length ≠ j) : lsR X j t p ++ [RP u] = lsR X j t (p ++ [u]) := by
  unfold lsR
  rw [List.map_append, List.set_append]
  split
  · rfl
  · rename_i hn
    rw [List.set_eq_of_length_le (by simp at hn ⊢; omega), List.set_eq_of_length_le (by simp at hn ⊢; omega)]; rfl
theorem lsR_eq {X j : Nat} {t u : Tot} {p : List Tot} (h : p.length = j) : p.map RP ++ [elR X t] = lsR X j t (p ++ [u]) := by
  unfold lsR
  rw [List.map_append, List.set_append, if_neg (by simp; omega)]
  subst h; simp
theorem lsR_frz {X j : Nat} {t : Tot} {p : List Tot} {q r : Nat → Bool} {σ : Store} (h : q X = true) : (lsR X j t p).map (frzE q r σ) = lsR X j t p := by
  rw [lsR_map _ _ _ _ _ (frz_RP q r σ)]
  unfold lsR elR
  congr 1
  simp -implicitDefEqProofs (disch := omega) only [go_sem, h]
theorem lsR_last {X j : Nat} {t : Tot} {p : List Tot} {r : Nat → Bool} {σ : Store} {s' : List Int} (hX : σ X = some ⟨3, 1, s'.map I⟩) (h8 : s'.length = 8) (hr : r X = false) : (lsR X j t p).map (frzE (notI (inI [X])) r σ) = (p.set j (s', t.2)).map RP := by
  rw [lsR_map _ _ _ _ _ (frz_RP _ r σ), List.map_set]
  congr 1
  unfold elR
  have : s'.take 8 = s' := List.take_of_length_le (by omega)
  simp -implicitDefEqProofs (disch := omega) only [go_sem, hX, h8, hr, this]
  simp
theorem rn_last {X Y j : Nat} {t u : Tot} {p : List Tot} (h : p.length = j) (he : t.2 = u.2) : AV.rnL (swp Y X) (p.map RP ++ [.agg [.own Y 1 0 8, Str u.2]]) = lsR X j t (p ++ [u]) := by
  rw [← lsR_eq (t := t) (u := u) h, rnL_eq, List.map_append, ← rnL_eq, rnL_RP]
  unfold elR
  simp -implicitDefEqProofs (disch := omega) only [go_sem, he]
theorem namesL_setT (q : Nat → Bool) (e : AV) (he : AV.namesB q e = true) : ∀ (l : List AV) (j : Nat), j < l.length → AV.namesL q (l.set j e) = true
  | [], _, h => by cases h
  | c :: l, 0, _ => by simp [AV.namesL, he]
  | c :: l, j + 1, h => by simp [AV.namesL, namesL_setT q e he l j (by simpa using h)]
theorem pathFrz_one {X j : Nat} {t : Tot} {p : List Tot} {s' : List Int} (hj : j < p.length) (h8 : s'.length = 8) (hX : inL [] X = false) : PathFrz X (some ⟨3, 1, s'.map I⟩) (lsR X j t p) (p.set j (s', t.2)) := fun σ hσ => by
  have hn : AV.namesL (notI (notI (inI [X]))) (lsR X j t p) = true := namesL_setT _ _ (by simp [elR, AV.namesB, AV.namesL, notI, inI]) _ _ (by simpa using hj)
  unfold frzB
  rw [hn, if_neg (by simp), if_neg (by simp)]
  show (⟨35, 2, (lsR X j t p).map (frzE (notI (inI [X])) (inL []) σ)⟩ : Blk) = _
  rw [lsR_last hσ h8 hX]
theorem sml_le {l : List Tot} (h : ∀ t ∈ l, TotB 1000000000000 t) {v : Nat} (hv : v < l.length) : TotB 1000000000000 (gd l v) := h _ (gd_mem l v hv)
set_option maxHeartbeats 4000000 in
theorem bent_ev (a : Acc) (how x y : Int) (hh : R64 how) (hx : R64 x) (hy : R64 y) (hl : a.l.length ≤ 100) (hlt : ∀ c ∈ a.l, c.t.size ≤ 1000) (hs : a.s.size ≤ 1000) (hp : a.p.length = 6) (hpt : ∀ t ∈ a.p, TotB 1000000000000 t) :
    Ev Tryd.prog 29 [AP a, I how, I x, I y] (.tup [AP (bentF a how x y), B (!decide (a.h = (bentF a how x y).h ∧ a.s = (bentF a how x y).s ∧ a.l = (bentF a how x y).l ∧ a.p = (bentF a how x y).p))]) := by
  have pk := pickR_ev how 8 hh (by omega)
  have pkb := pickF_in (c := how) (n := 8) (by omega)
  have px8 := pickR_ev x 8 hx (by omega)
  have bx8 := pickF_in (c := x) (n := 8) (by omega)
  have px9 := pickR_ev x 9 hx (by omega)
  have bx9 := pickF_in (c := x) (n := 9) (by omega)
  have px100 := pickR_ev x 100 hx (by omega)
  have py6 := pickR_ev y 6 hy (by omega)
  have by6 := pickF_in (c := y) (n := 6) (by omega)
  obtain ⟨b, hb⟩ : ∃ b, b = bentF a how x y := ⟨_, rfl⟩
  rw [← hb]
  unfold bentF at hb
  generalize pickF how 8 = k at *
  generalize pickF x 8 = x8 at *
  generalize pickF x 9 = x9 at *
  generalize pickF x 100 = x100 at *
  generalize hj6 : pickF y 6 = y6 at *
  obtain ⟨h, l, s, p⟩ := a
  simp only at hl hlt hs hp hpt hb
  dsimp only
  obtain ⟨j, hj⟩ : ∃ j : Nat, j = if k = 4 then y6.toNat else 6 := ⟨_, rfl⟩
  obtain ⟨L, hL⟩ : ∃ L : Nat → List AV, L = fun v => lsR 62914625 j (gd p j) (p.take v) := ⟨_, rfl⟩
  obtain ⟨Z, hZ⟩ : ∃ Z : Nat → Option Blk, Z = fun v => if j < v then some ⟨3, 1, (gd p j).1.map I⟩ else none := ⟨_, rfl⟩
  have hLl : ∀ v, v ≤ 6 → (L v).length = v := fun v hv => by rw [hL]; simp only; rw [lsR_len, List.length_take]; omega
  have hLn : ∀ v q, q 62914625 = false → AV.namesL q (L v) = false := fun v q hq => by rw [hL]; exact lsR_names hq
  have hLk : ∀ v q, q 62914625 = false → Blk.kill q ⟨35, 2, L v⟩ = ⟨35, 2, L v⟩ := fun v q hq => by have := hLn v q hq; simp -implicitDefEqProofs (disch := omega) only [go_sem, this]
  have hLo : ∀ v n, n ≠ 3932164 → AV.namesL (own n) (L v) = false := fun v n hn => hLn v _ (by simp only [own, beq_eq_false_iff_ne]; omega)
  have hLi : ∀ v n, n ≠ 62914625 → AV.namesL (isId n) (L v) = false := fun v n hn => hLn v _ (by simp only [isId, beq_eq_false_iff_ne]; omega)
  have hLf : ∀ v q r σ, q 62914625 = true → (L v).map (frzE q r σ) = L v := fun v q r σ hq => by rw [hL]; exact lsR_frz hq
  have hZk : ∀ v q, (Z v).map (Blk.kill q) = Z v := fun v q => by rw [hZ]; simp only; split <;> first | rfl | simp -implicitDefEqProofs (disch := omega) only [go_sem]
  have hZf : ∀ v q r σ, (Z v).map (frzB q r σ) = Z v := fun v q r σ => by rw [hZ]; simp only; split <;> first | rfl | simp -implicitDefEqProofs (disch := omega) only [go_sem]
  have hL0 : L 0 = [] := by rw [hL]; simp [lsR]
  have hZ0 : Z 0 = none := by rw [hZ]; simp
  have hLne : ∀ v, v < 6 → v ≠ j → L v ++ [.agg [.sl 1 ((gd p v).1.map I), .v (.string (gd p v).2)]] = L (v + 1) := fun v hv hn => by
    rw [hL]; simp only; rw [List.take_add_one, gd_some p v (by omega)]
    exact lsR_ne (by rw [List.length_take]; omega)
  have hLeq : j < 6 → AV.rnL (swp 62915072 62914625) (L j ++ [.agg [.own 62915072 1 0 8, .v (.string (gd p j).2)]]) = L (j + 1) := fun hj6 => by
    rw [hL]; simp only; rw [List.take_add_one, gd_some p j (by omega), lsR_ge (by rw [List.length_take]; omega)]
    exact rn_last (by rw [List.length_take]; omega) rfl
  have hZne : ∀ v, v ≠ j → Z v = Z (v + 1) := fun v hn => by
    rw [hZ]; simp only
    by_cases e : j < v
    · rw [if_pos e, if_pos (by omega)]
    · rw [if_neg e, if_neg (by omega)]
  have hZeq : Z (j + 1) = some ⟨3, 1, (gd p j).1.map I⟩ := by rw [hZ]; simp
  refine ev_ofB [1, 2, 4, 5, 30] Tryd.func29 rfl (by kernel_rfl) mo (Nat.le_of_ble_eq_true rfl) ?_
  simp -implicitDefEqProofs (disch := omega) only [go_sem, Tryd.ntmps29]
  refine region_J (Plain.mono) (fun D E σ => E 1 = I how ∧ E 2 = I x ∧ E 3 = I y ∧ E 4 = .ptr 62914624 4 0 0 ∧ E 8 = .ptr 62914688 4 0 0 ∧ E 9 = B false ∧ σ 62914624 = some ⟨51, 4, [.agg [I h, CL l, Str s, RPL p]]⟩ ∧ σ 62914688 = some ⟨51, 4, [.agg [I 0, .v (.slice none 0 0), Str ByteArray.empty, .v (.slice none 0 0)]]⟩ ∧ σ 62914625 = Z 0 ∧ (D 10 = true → D 8 = true) ∧ (D 8 = true → D 5 = true) ∧ (D 5 = true → D 2 = true) ∧ (D 10 = true → D 9 = true) ∧ (D 2 = true → D 5 = false → σ 62914816 = some ⟨30, 5, []⟩) ∧ (D 2 = true → D 5 = false → E 16 = .own 62914816 5 0 0) ∧ (D 5 = true → σ 62914816 = some ⟨30, 5, l.map CH⟩) ∧ (D 5 = true → E 19 = .own 62914816 5 0 l.length) ∧ (D 9 = true → D 10 = false → σ 62914720 = some ⟨51, 4, [.agg [I 0, .v (.slice none 0 0), Str ByteArray.empty, .v (.slice none 0 0)]]⟩) ∧ (D 10 = true → σ 62914720 = some ⟨51, 4, [.agg [I h, .own 62914816 5 0 l.length, Str s, .v (.slice none 0 0)]]⟩) ∧ (D 0 = true → E 14 = .ptr 62914624 4 0 0) ∧ (D 1 = true → E 15 = I h) ∧ (D 3 = true → E 17 = .ptr 62914624 4 0 1) ∧ (D 4 = true → E 18 = CL l) ∧ (D 6 = true → E 20 = .ptr 62914624 4 0 2) ∧ (D 7 = true → E 21 = Str s) ∧ (D 8 = true → E 22 = .agg [I h, .own 62914816 5 0 l.length, Str s, .v (.slice none 0 0)]) ∧ (D 9 = true → E 10 = .ptr 62914720 4 0 0)) ?_ ?_ ?_
  · simp -implicitDefEqProofs (disch := omega) only [go_sem, hZk, hZ0]
    simp
  · simp only [stepsJ, and_true]
    refine ⟨?_, ?_, ?_, ?_, ?_, ?_, ?_, ?_, ?_, ?_, ?_⟩
    · rintro D hD hd E σ ⟨e1, e2, e3, e4, e8, e9, s4, s8, sX, c10_8, c8_5, c5_2, c10_9, m0_0, n0_0, m0_1, n0_1, m1_0, m1_1, j0, j1, j3, j4, j6, j7, j8, j9⟩
      have hD : D 0 = false := hD
      simp -implicitDefEqProofs (disch := omega) only [go_sem, e1, e2, e3, e4, e8, e9, s4, s8, sX, hZk, hZ0]
      repeat' apply And.intro
      all_goals first | assumption | (intro _; assumption) | trivial | (simp -implicitDefEqProofs (contextual := true) (disch := first | assumption | omega) only [go_sem, m0_1, n0_1, m1_1, j0, j1, j3, j4, j6, j7, j8, j9, m0_0, n0_0, m1_0, implies_true, forall_const, false_implies, true_implies]; done) | (intros; contradiction) | trace_state
    · rintro D hD hd E σ ⟨e1, e2, e3, e4, e8, e9, s4, s8, sX, c10_8, c8_5, c5_2, c10_9, m0_0, n0_0, m0_1, n0_1, m1_0, m1_1, j0, j1, j3, j4, j6, j7, j8, j9⟩
      have hD : D 1 = false := hD
      have d0 : D 0 = true := hd ⟨0, .data⟩ (by simp) rfl
      have q0 := j0 d0
      simp -implicitDefEqProofs (disch := omega) only [go_sem, e1, e2, e3, e4, e8, e9, s4, s8, sX, q0, hZk, hZ0]
      repeat' apply And.intro
      all_goals first | assumption | (intro _; assumption) | trivial | (simp -implicitDefEqProofs (contextual := true) (disch := first | assumption | omega) only [go_sem, m0_1, n0_1, m1_1, j0, j1, j3, j4, j6, j7, j8, j9, m0_0, n0_0, m1_0, implies_true, forall_const, false_implies, true_implies]; done) | (intros; contradiction) | trace_state
    · rintro D hD hd E σ ⟨e1, e2, e3, e4, e8, e9, s4, s8, sX, c10_8, c8_5, c5_2, c10_9, m0_0, n0_0, m0_1, n0_1, m1_0, m1_1, j0, j1, j3, j4, j6, j7, j8, j9⟩
      have hD : D 2 = false := hD
      simp -implicitDefEqProofs (disch := omega) only [go_sem, e1, e2, e3, e4, e8, e9, s4, s8, sX, hZk, hZ0]
      repeat' apply And.intro
      all_goals first | assumption | (intro _; assumption) | trivial | (intro h; intros; have hh := (c5_2 h); rw [hD] at hh; cases hh; done) | (intro h; intros; have hh := (c5_2 (c8_5 h)); rw [hD] at hh; cases hh; done) | (intro h; intros; have hh := (c5_2 (c8_5 (c10_8 h))); rw [hD] at hh; cases hh; done) | (simp -implicitDefEqProofs (contextual := true) (disch := first | assumption | omega) only [go_sem, m0_1, n0_1, m1_1, j0, j1, j3, j4, j6, j7, j8, j9, m0_0, n0_0, m1_0, implies_true, forall_const, false_implies, true_implies]; done) | (intros; contradiction) | trace_state
    · rintro D hD hd E σ ⟨e1, e2, e3, e4, e8, e9, s4, s8, sX, c10_8, c8_5, c5_2, c10_9, m0_0, n0_0, m0_1, n0_1, m1_0, m1_1, j0, j1, j3, j4, j6, j7, j8, j9⟩
      have hD : D 3 = false := hD
      simp -implicitDefEqProofs (disch := omega) only [go_sem, e1, e2, e3, e4, e8, e9, s4, s8, sX, hZk, hZ0]
      repeat' apply And.intro
      all_goals first | assumption | (intro _; assumption) | trivial | (simp -implicitDefEqProofs (contextual := true) (disch := first | assumption | omega) only [go_sem, m0_1, n0_1, m1_1, j0, j1, j3, j4, j6, j7, j8, j9, m0_0, n0_0, m1_0, implies_true, forall_const, false_implies, true_implies]; done) | (intros; contradiction) | trace_state
    · rintro D hD hd E σ ⟨e1, e2, e3, e4, e8, e9, s4, s8, sX, c10_8, c8_5, c5_2, c10_9, m0_0, n0_0, m0_1, n0_1, m1_0, m1_1, j0, j1, j3, j4, j6, j7, j8, j9⟩
      have hD : D 4 = false := hD
      have d3 : D 3 = true := hd ⟨3, .data⟩ (by simp) rfl
      have q3 := j3 d3
      simp -implicitDefEqProofs (disch := omega) only [go_sem, e1, e2, e3, e4, e8, e9, s4, s8, sX, q3, hZk, hZ0]
      repeat' apply And.intro
      all_goals first | assumption | (intro _; assumption) | trivial | (simp -implicitDefEqProofs (contextual := true) (disch := first | assumption | omega) only [go_sem, m0_1, n0_1, m1_1, j0, j1, j3, j4, j6, j7, j8, j9, m0_0, n0_0, m1_0, implies_true, forall_const, false_implies, true_implies]; done) | (intros; contradiction) | trace_state
    · rintro D hD hd E σ ⟨e1, e2, e3, e4, e8, e9, s4, s8, sX, c10_8, c8_5, c5_2, c10_9, m0_0, n0_0, m0_1, n0_1, m1_0, m1_1, j0, j1, j3, j4, j6, j7, j8, j9⟩
      have hD : D 5 = false := hD
      have d2 : D 2 = true := hd ⟨2, .data⟩ (by simp) rfl
      have d4 : D 4 = true := hd ⟨4, .data⟩ (by simp) rfl
      have q4 := j4 d4
      have g0 := m0_0 d2 hD
      have f0 := n0_0 d2 hD
      simp -implicitDefEqProofs (disch := omega) only [go_sem, e1, e2, e3, e4, e8, e9, s4, s8, sX, q4, g0, f0, hZk, hZ0]
      repeat' apply And.intro
      all_goals first | assumption | (intro _; assumption) | trivial | (intro h; intros; have hh := (c8_5 h); rw [hD] at hh; cases hh; done) | (intro h; intros; have hh := (c8_5 (c10_8 h)); rw [hD] at hh; cases hh; done) | (simp -implicitDefEqProofs (contextual := true) (disch := first | assumption | omega) only [go_sem, m0_1, n0_1, m1_1, j0, j1, j3, j4, j6, j7, j8, j9, m0_0, n0_0, m1_0, implies_true, forall_const, false_implies, true_implies]; done) | (intros; contradiction) | trace_state
    · rintro D hD hd E σ ⟨e1, e2, e3, e4, e8, e9, s4, s8, sX, c10_8, c8_5, c5_2, c10_9, m0_0, n0_0, m0_1, n0_1, m1_0, m1_1, j0, j1, j3, j4, j6, j7, j8, j9⟩
      have hD : D 6 = false := hD
      simp -implicitDefEqProofs (disch := omega) only [go_sem, e1, e2, e3, e4, e8, e9, s4, s8, sX, hZk, hZ0]
      repeat' apply And.intro
      all_goals first | assumption | (intro _; assumption) | trivial | (simp -implicitDefEqProofs (contextual := true) (disch := first | assumption | omega) only [go_sem, m0_1, n0_1, m1_1, j0, j1, j3, j4, j6, j7, j8, j9, m0_0, n0_0, m1_0, implies_true, forall_const, false_implies, true_implies]; done) | (intros; contradiction) | trace_state
    · rintro D hD hd E σ ⟨e1, e2, e3, e4, e8, e9, s4, s8, sX, c10_8, c8_5, c5_2, c10_9, m0_0, n0_0, m0_1, n0_1, m1_0, m1_1, j0, j1, j3, j4, j6, j7, j8, j9⟩
      have hD : D 7 = false := hD
      have d6 : D 6 = true := hd ⟨6, .data⟩ (by simp) rfl
      have q6 := j6 d6
      simp -implicitDefEqProofs (disch := omega) only [go_sem, e1, e2, e3, e4, e8, e9, s4, s8, sX, q6, hZk, hZ0]
      repeat' apply And.intro
      all_goals first | assumption | (intro _; assumption) | trivial | (simp -implicitDefEqProofs (contextual := true) (disch := first | assumption | omega) only [go_sem, m0_1, n0_1, m1_1, j0, j1, j3, j4, j6, j7, j8, j9, m0_0, n0_0, m1_0, implies_true, forall_const, false_implies, true_implies]; done) | (intros; contradiction) | trace_state
    · rintro D hD hd E σ ⟨e1, e2, e3, e4, e8, e9, s4, s8, sX, c10_8, c8_5, c5_2, c10_9, m0_0, n0_0, m0_1, n0_1, m1_0, m1_1, j0, j1, j3, j4, j6, j7, j8, j9⟩
      have hD : D 8 = false := hD
      have d1 : D 1 = true := hd ⟨1, .data⟩ (by simp) rfl
      have q1 := j1 d1
      have d5 : D 5 = true := hd ⟨5, .data⟩ (by simp) rfl
      have d7 : D 7 = true := hd ⟨7, .data⟩ (by simp) rfl
      have q7 := j7 d7
      have g0 := m0_1 d5
      have f0 := n0_1 d5
      simp -implicitDefEqProofs (disch := omega) only [go_sem, e1, e2, e3, e4, e8, e9, s4, s8, sX, q1, q7, g0, f0, hZk, hZ0]
      repeat' apply And.intro
      all_goals first | assumption | (intro _; assumption) | trivial | (intro h; intros; have hh := (c10_8 h); rw [hD] at hh; cases hh; done) | (intro _ h; rw [d5] at h; cases h; done) | (intro h; rw [d5] at h; cases h; done) | (simp -implicitDefEqProofs (contextual := true) (disch := first | assumption | omega) only [go_sem, m0_1, n0_1, m1_1, j0, j1, j3, j4, j6, j7, j8, j9, m0_0, n0_0, m1_0, implies_true, forall_const, false_implies, true_implies]; done) | (intros; contradiction) | trace_state
    · rintro D hD hd E σ ⟨e1, e2, e3, e4, e8, e9, s4, s8, sX, c10_8, c8_5, c5_2, c10_9, m0_0, n0_0, m0_1, n0_1, m1_0, m1_1, j0, j1, j3, j4, j6, j7, j8, j9⟩
      have hD : D 9 = false := hD
      simp -implicitDefEqProofs (disch := omega) only [go_sem, e1, e2, e3, e4, e8, e9, s4, s8, sX, hZk, hZ0]
      repeat' apply And.intro
      all_goals first | assumption | (intro _; assumption) | trivial | (intro h; intros; have hh := (c10_9 h); rw [hD] at hh; cases hh; done) | (simp -implicitDefEqProofs (contextual := true) (disch := first | assumption | omega) only [go_sem, m0_1, n0_1, m1_1, j0, j1, j3, j4, j6, j7, j8, j9, m0_0, n0_0, m1_0, implies_true, forall_const, false_implies, true_implies]; done) | (intros; contradiction) | trace_state
    · rintro D hD hd E σ ⟨e1, e2, e3, e4, e8, e9, s4, s8, sX, c10_8, c8_5, c5_2, c10_9, m0_0, n0_0, m0_1, n0_1, m1_0, m1_1, j0, j1, j3, j4, j6, j7, j8, j9⟩
      have hD : D 10 = false := hD
      have d8 : D 8 = true := hd ⟨8, .data⟩ (by simp) rfl
      have q8 := j8 d8
      have d9 : D 9 = true := hd ⟨9, .data⟩ (by simp) rfl
      have q9 := j9 d9
      have g1 := m1_0 d9 hD
      simp -implicitDefEqProofs (disch := omega) only [go_sem, e1, e2, e3, e4, e8, e9, s4, s8, sX, q8, q9, g1, hZk, hZ0]
      repeat' apply And.intro
      all_goals first | assumption | (intro _; assumption) | trivial | (intro _ h; rw [(c8_5 d8)] at h; cases h; done) | (intro h; rw [(c8_5 d8)] at h; cases h; done) | (simp -implicitDefEqProofs (contextual := true) (disch := first | assumption | omega) only [go_sem, m0_1, n0_1, m1_1, j0, j1, j3, j4, j6, j7, j8, j9, m0_0, n0_0, m1_0, implies_true, forall_const, false_implies, true_implies]; done) | (intros; contradiction) | trace_state
  · rintro D E σ hD ⟨e1, e2, e3, e4, e8, e9, s4, s8, sX, c10_8, c8_5, c5_2, c10_9, m0_0, n0_0, m0_1, n0_1, m1_0, m1_1, j0, j1, j3, j4, j6, j7, j8, j9⟩
    have g0 := m0_1 (hD 5 (by decide))
    have f0 := n0_1 (hD 5 (by decide))
    have g1 := m1_1 (hD 10 (by decide))
    have q0 := j0 (hD 0 (by decide))
    have q1 := j1 (hD 1 (by decide))
    have q3 := j3 (hD 3 (by decide))
    have q4 := j4 (hD 4 (by decide))
    have q6 := j6 (hD 6 (by decide))
    have q7 := j7 (hD 7 (by decide))
    have q8 := j8 (hD 8 (by decide))
    have q9 := j9 (hD 9 (by decide))
    clear c10_8 c8_5 c5_2 c10_9 m0_0 n0_0 m0_1 n0_1 m1_0 m1_1 j0 j1 j3 j4 j6 j7 j8 j9 hD
    refine nilOwn_C 62914720 62914721 0 3 35 2 (k := ⟨51, 4, [.agg [I h, .own 62914816 5 0 l.length, Str s, .v (.slice none 0 0)]]⟩) (el := .agg [I h, .own 62914816 5 0 l.length, Str s, .v (.slice none 0 0)]) (by simp -implicitDefEqProofs (disch := omega) only [go_sem, g1]) (by decide) rfl rfl (by simp) (by simp -implicitDefEqProofs (disch := omega) only [go_sem]) rfl ?_
    refine reg_mk Plain.mono ?_
    simp -implicitDefEqProofs (disch := omega) only [go_sem, e1, e2, e3, e4, e8, e9, s4, s8, sX, hZk, g0, g1, q9]
    refine loopC_mk (fun n E σ => ∃ v : Nat, v + n = 6 ∧ E 1 = I how ∧ E 2 = I x ∧ E 3 = I y ∧ E 4 = .ptr 62914624 4 0 0 ∧ E 8 = .ptr 62914688 4 0 0 ∧ E 9 = B false ∧ E 10 = .ptr 62914720 4 0 0 ∧ E 11 = I v ∧ σ 62914624 = some ⟨51, 4, [.agg [I h, CL l, Str s, RPL p]]⟩ ∧ σ 62914688 = some ⟨51, 4, [.agg [I 0, .v (.slice none 0 0), Str ByteArray.empty, .v (.slice none 0 0)]]⟩ ∧ σ 62914816 = some ⟨30, 5, l.map CH⟩ ∧ σ 62914720 = some ⟨51, 4, [.agg [I h, .own 62914816 5 0 l.length, Str s, .own 62914721 2 0 v]]⟩ ∧ σ 62914721 = some ⟨35, 2, L v⟩ ∧ σ 62914625 = Z v) 6 ⟨0, by omega, ?_⟩ ?_
    · simp -implicitDefEqProofs (disch := omega) only [go_sem, e1, e2, e3, e4, e8, e9, s4, s8, sX, hZk, g0, g1, q9]
      simp [hL0, and_self]
    clear e1 e2 e3 e4 e8 e9 s4 s8 sX g0 g1 f0 q0 q1 q3 q4 q6 q7 q8 q9 E σ
    rintro n E σ ⟨v, hv, e1, e2, e3, e4, e8, e9, e10, e11, s4, s8, sC, s10, sP, sX⟩
    simp -implicitDefEqProofs (disch := omega) only [go_sem, e1, e2, e3, e4, e8, e9, e10, e11, s4, s8, sC, s10, sP, sX, hZk]
    refine branch_mk (fun hc => ?_) (fun hc => ?_)
    · have hg := sml_le hpt (v := v) (by omega)
      have hg8 := hg.1
      have hgt : (gd p v).1.take 8 = (gd p v).1 := List.take_of_length_le (by omega)
      have hlv := hLl v (by omega)
      have htk : (L v).take v = L v := List.take_of_length_le (by omega)
      have hLne' := hLne v (by omega)
      have hLeq' := hLeq
      have hLP : AV.namesL (isId 62914721) (L v ++ [.agg [.own 62915072 1 0 8, .v (.string (gd p v).2)]]) = false := namesL_snoc _ _ _ (hLn v _ rfl) rfl
      simp -implicitDefEqProofs (disch := omega) only [go_sem, e1, e2, e3, e4, e8, e9, e10, e11, s4, s8, sC, s10, sP, sX, hZk]
      refine region_J (Plain.mono) (fun D E σ => E 1 = I how ∧ E 2 = I x ∧ E 3 = I y ∧ E 4 = .ptr 62914624 4 0 0 ∧ E 8 = .ptr 62914688 4 0 0 ∧ E 9 = B false ∧ E 10 = .ptr 62914720 4 0 0 ∧ E 11 = I v ∧ σ 62914624 = some ⟨51, 4, [.agg [I h, CL l, Str s, RPL p]]⟩ ∧ σ 62914688 = some ⟨51, 4, [.agg [I 0, .v (.slice none 0 0), Str ByteArray.empty, .v (.slice none 0 0)]]⟩ ∧ σ 62914816 = some ⟨30, 5, l.map CH⟩ ∧ σ 62914625 = Z v ∧ (D 20 = true → D 18 = true) ∧ (D 18 = true → D 17 = true) ∧ (D 17 = true → D 16 = true) ∧ (D 16 = true → D 9 = true) ∧ (D 9 = true → D 2 = true) ∧ (D 18 = true → D 1 = true) ∧ (D 2 = true → D 9 = false → σ 62915072 = some ⟨3, 1, []⟩) ∧ (D 2 = true → D 9 = false → E 32 = .own 62915072 1 0 0) ∧ (D 9 = true → σ 62915072 = some ⟨3, 1, (gd p v).1.map I⟩) ∧ (D 9 = true → E 39 = .own 62915072 1 0 8) ∧ (D 17 = true → σ 62915312 = some ⟨35, 2, [.agg [.own 62915072 1 0 8, Str (gd p v).2]]⟩) ∧ (D 17 = true → E 47 = .own 62915312 2 0 1) ∧ (D 1 = false → σ 62914721 = some ⟨35, 2, L v⟩) ∧ (D 1 = true → D 18 = false → σ 62914721 = some ⟨35, 2, L v⟩) ∧ (D 1 = true → D 18 = false → E 31 = .own 62914721 2 0 v) ∧ (D 18 = true → σ 62914721 = some ⟨35, 2, L v ++ [.agg [.own 62915072 1 0 8, Str (gd p v).2]]⟩) ∧ (D 18 = true → E 48 = .own 62914721 2 0 (v + 1)) ∧ (D 18 = false → σ 62914720 = some ⟨51, 4, [.agg [I h, .own 62914816 5 0 l.length, Str s, .own 62914721 2 0 v]]⟩) ∧ (D 18 = true → D 20 = false → σ 62914720 = some ⟨51, 4, [.agg [I h, .own 62914816 5 0 l.length, Str s, .any]]⟩) ∧ (D 20 = true → σ 62914720 = some ⟨51, 4, [.agg [I h, .own 62914816 5 0 l.length, Str s, .own 62914721 2 0 (v + 1)]]⟩) ∧ (D 0 = true → E 30 = .ptr 62914720 4 0 3) ∧ (D 3 = true → E 33 = .ptr 62914624 4 0 3) ∧ (D 4 = true → E 34 = RPL p) ∧ (D 5 = true → E 35 = I v) ∧ (D 6 = true → E 36 = .pt (RP (gd p v)) 0) ∧ (D 7 = true → E 37 = .pt (RP (gd p v)) 0) ∧ (D 8 = true → E 38 = SL (gd p v).1) ∧ (D 10 = true → E 40 = .ptr 62914624 4 0 3) ∧ (D 11 = true → E 41 = RPL p) ∧ (D 12 = true → E 42 = I v) ∧ (D 13 = true → E 43 = .pt (RP (gd p v)) 0) ∧ (D 14 = true → E 44 = .pt (RP (gd p v)) 1) ∧ (D 15 = true → E 45 = Str (gd p v).2) ∧ (D 16 = true → E 46 = .agg [.own 62915072 1 0 8, Str (gd p v).2]) ∧ (D 19 = true → E 49 = .ptr 62914720 4 0 3)) ?_ ?_ ?_
      · simp -implicitDefEqProofs (disch := omega) only [go_sem, hlv, htk, hLn v, hLP, hZk, hg8, hgt, and_self]
        simp [e1, e2, e3, e4, e8, e9, e10, e11, s4, s8, sC, s10, sP, sX]
      · simp only [stepsJ, and_true]
        refine ⟨?_, ?_, ?_, ?_, ?_, ?_, ?_, ?_, ?_, ?_, ?_, ?_, ?_, ?_, ?_, ?_, ?_, ?_, ?_, ?_, ?_⟩
        · rintro D hD hd E σ ⟨e1, e2, e3, e4, e8, e9, e10, e11, s4, s8, sC, sX, c20_18, c18_17, c17_16, c16_9, c9_2, c18_1, m0_0, n0_0, m0_1, n0_1, m1_0, n1_0, m2_0, m2_1, n2_1, m2_2, n2_2, m3_0, m3_1, m3_2, j0, j3, j4, j5, j6, j7, j8, j10, j11, j12, j13, j14, j15, j16, j19⟩
          have hD : D 0 = false := hD
          simp -implicitDefEqProofs (disch := omega) only [go_sem, e1, e2, e3, e4, e8, e9, e10, e11, s4, s8, sC, sX, hlv, htk, hLn v, hLP, hZk, hg8, hgt, and_self]
          repeat' apply And.intro
          all_goals first | assumption | (intro _; assumption) | trivial | (simp -implicitDefEqProofs (contextual := true) (disch := first | assumption | omega) only [go_sem, m0_1, n0_1, m1_0, n1_0, m2_0, m2_2, n2_2, m3_0, m3_2, j0, j3, j4, j5, j6, j7, j8, j10, j11, j12, j13, j14, j15, j16, j19, m0_0, n0_0, m2_1, n2_1, m3_1, implies_true, forall_const, false_implies, true_implies]; done) | (intro h; exact killS_of (m2_0 h) (hLk v _ rfl)) | (intro h1 h2; exact killS_of (m2_1 h1 h2) (hLk v _ rfl)) | (intros; contradiction) | trace_state
        · rintro D hD hd E σ ⟨e1, e2, e3, e4, e8, e9, e10, e11, s4, s8, sC, sX, c20_18, c18_17, c17_16, c16_9, c9_2, c18_1, m0_0, n0_0, m0_1, n0_1, m1_0, n1_0, m2_0, m2_1, n2_1, m2_2, n2_2, m3_0, m3_1, m3_2, j0, j3, j4, j5, j6, j7, j8, j10, j11, j12, j13, j14, j15, j16, j19⟩
          have hD : D 1 = false := hD
          have d0 : D 0 = true := hd ⟨0, .data⟩ (by simp) rfl
          have q0 := j0 d0
          have g2 := m2_0 hD
          have r3 : D 18 = false := by
            cases e : D 18 with
            | false => rfl
            | true => rw [(c18_1 e)] at hD; cases hD
          have g3 := m3_0 r3
          simp -implicitDefEqProofs (disch := omega) only [go_sem, e1, e2, e3, e4, e8, e9, e10, e11, s4, s8, sC, sX, q0, g2, g3, hlv, htk, hLn v, hLP, hZk, hg8, hgt, and_self]
          repeat' apply And.intro
          all_goals first | assumption | (intro _; assumption) | trivial | (intro h; intros; have hh := (c18_1 h); rw [hD] at hh; cases hh; done) | (intro h; intros; have hh := (c18_1 (c20_18 h)); rw [hD] at hh; cases hh; done) | (simp -implicitDefEqProofs (contextual := true) (disch := first | assumption | omega) only [go_sem, m0_1, n0_1, m1_0, n1_0, m2_0, m2_2, n2_2, m3_0, m3_2, j0, j3, j4, j5, j6, j7, j8, j10, j11, j12, j13, j14, j15, j16, j19, m0_0, n0_0, m2_1, n2_1, m3_1, implies_true, forall_const, false_implies, true_implies]; done) | (intro h; exact killS_of (m2_0 h) (hLk v _ rfl)) | (intro h1 h2; exact killS_of (m2_1 h1 h2) (hLk v _ rfl)) | (intros; contradiction) | trace_state
        · rintro D hD hd E σ ⟨e1, e2, e3, e4, e8, e9, e10, e11, s4, s8, sC, sX, c20_18, c18_17, c17_16, c16_9, c9_2, c18_1, m0_0, n0_0, m0_1, n0_1, m1_0, n1_0, m2_0, m2_1, n2_1, m2_2, n2_2, m3_0, m3_1, m3_2, j0, j3, j4, j5, j6, j7, j8, j10, j11, j12, j13, j14, j15, j16, j19⟩
          have hD : D 2 = false := hD
          simp -implicitDefEqProofs (disch := omega) only [go_sem, e1, e2, e3, e4, e8, e9, e10, e11, s4, s8, sC, sX, hlv, htk, hLn v, hLP, hZk, hg8, hgt, and_self]
          repeat' apply And.intro
          all_goals first | assumption | (intro _; assumption) | trivial | (intro h; intros; have hh := (c9_2 h); rw [hD] at hh; cases hh; done) | (intro h; intros; have hh := (c9_2 (c16_9 h)); rw [hD] at hh; cases hh; done) | (intro h; intros; have hh := (c9_2 (c16_9 (c17_16 h))); rw [hD] at hh; cases hh; done) | (intro h; intros; have hh := (c9_2 (c16_9 (c17_16 (c18_17 h)))); rw [hD] at hh; cases hh; done) | (intro h; intros; have hh := (c9_2 (c16_9 (c17_16 (c18_17 (c20_18 h))))); rw [hD] at hh; cases hh; done) | (simp -implicitDefEqProofs (contextual := true) (disch := first | assumption | omega) only [go_sem, m0_1, n0_1, m1_0, n1_0, m2_0, m2_2, n2_2, m3_0, m3_2, j0, j3, j4, j5, j6, j7, j8, j10, j11, j12, j13, j14, j15, j16, j19, m0_0, n0_0, m2_1, n2_1, m3_1, implies_true, forall_const, false_implies, true_implies]; done) | (intro h; exact killS_of (m2_0 h) (hLk v _ rfl)) | (intro h1 h2; exact killS_of (m2_1 h1 h2) (hLk v _ rfl)) | (intros; contradiction) | trace_state
        · rintro D hD hd E σ ⟨e1, e2, e3, e4, e8, e9, e10, e11, s4, s8, sC, sX, c20_18, c18_17, c17_16, c16_9, c9_2, c18_1, m0_0, n0_0, m0_1, n0_1, m1_0, n1_0, m2_0, m2_1, n2_1, m2_2, n2_2, m3_0, m3_1, m3_2, j0, j3, j4, j5, j6, j7, j8, j10, j11, j12, j13, j14, j15, j16, j19⟩
          have hD : D 3 = false := hD
          simp -implicitDefEqProofs (disch := omega) only [go_sem, e1, e2, e3, e4, e8, e9, e10, e11, s4, s8, sC, sX, hlv, htk, hLn v, hLP, hZk, hg8, hgt, and_self]
          repeat' apply And.intro
          all_goals first | assumption | (intro _; assumption) | trivial | (simp -implicitDefEqProofs (contextual := true) (disch := first | assumption | omega) only [go_sem, m0_1, n0_1, m1_0, n1_0, m2_0, m2_2, n2_2, m3_0, m3_2, j0, j3, j4, j5, j6, j7, j8, j10, j11, j12, j13, j14, j15, j16, j19, m0_0, n0_0, m2_1, n2_1, m3_1, implies_true, forall_const, false_implies, true_implies]; done) | (intro h; exact killS_of (m2_0 h) (hLk v _ rfl)) | (intro h1 h2; exact killS_of (m2_1 h1 h2) (hLk v _ rfl)) | (intros; contradiction) | trace_state
        · rintro D hD hd E σ ⟨e1, e2, e3, e4, e8, e9, e10, e11, s4, s8, sC, sX, c20_18, c18_17, c17_16, c16_9, c9_2, c18_1, m0_0, n0_0, m0_1, n0_1, m1_0, n1_0, m2_0, m2_1, n2_1, m2_2, n2_2, m3_0, m3_1, m3_2, j0, j3, j4, j5, j6, j7, j8, j10, j11, j12, j13, j14, j15, j16, j19⟩
          have hD : D 4 = false := hD
          have d3 : D 3 = true := hd ⟨3, .data⟩ (by simp) rfl
          have q3 := j3 d3
          simp -implicitDefEqProofs (disch := omega) only [go_sem, e1, e2, e3, e4, e8, e9, e10, e11, s4, s8, sC, sX, q3, hlv, htk, hLn v, hLP, hZk, hg8, hgt, and_self]
          repeat' apply And.intro
          all_goals first | assumption | (intro _; assumption) | trivial | (simp -implicitDefEqProofs (contextual := true) (disch := first | assumption | omega) only [go_sem, m0_1, n0_1, m1_0, n1_0, m2_0, m2_2, n2_2, m3_0, m3_2, j0, j3, j4, j5, j6, j7, j8, j10, j11, j12, j13, j14, j15, j16, j19, m0_0, n0_0, m2_1, n2_1, m3_1, implies_true, forall_const, false_implies, true_implies]; done) | (intro h; exact killS_of (m2_0 h) (hLk v _ rfl)) | (intro h1 h2; exact killS_of (m2_1 h1 h2) (hLk v _ rfl)) | (intros; contradiction) | trace_state
        · rintro D hD hd E σ ⟨e1, e2, e3, e4, e8, e9, e10, e11, s4, s8, sC, sX, c20_18, c18_17, c17_16, c16_9, c9_2, c18_1, m0_0, n0_0, m0_1, n0_1, m1_0, n1_0, m2_0, m2_1, n2_1, m2_2, n2_2, m3_0, m3_1, m3_2, j0, j3, j4, j5, j6, j7, j8, j10, j11, j12, j13, j14, j15, j16, j19⟩
          have hD : D 5 = false := hD
          simp -implicitDefEqProofs (disch := omega) only [go_sem, e1, e2, e3, e4, e8, e9, e10, e11, s4, s8, sC, sX, hlv, htk, hLn v, hLP, hZk, hg8, hgt, and_self]
          repeat' apply And.intro
          all_goals first | assumption | (intro _; assumption) | trivial | (simp -implicitDefEqProofs (contextual := true) (disch := first | assumption | omega) only [go_sem, m0_1, n0_1, m1_0, n1_0, m2_0, m2_2, n2_2, m3_0, m3_2, j0, j3, j4, j5, j6, j7, j8, j10, j11, j12, j13, j14, j15, j16, j19, m0_0, n0_0, m2_1, n2_1, m3_1, implies_true, forall_const, false_implies, true_implies]; done) | (intro h; exact killS_of (m2_0 h) (hLk v _ rfl)) | (intro h1 h2; exact killS_of (m2_1 h1 h2) (hLk v _ rfl)) | (intros; contradiction) | trace_state
        · rintro D hD hd E σ ⟨e1, e2, e3, e4, e8, e9, e10, e11, s4, s8, sC, sX, c20_18, c18_17, c17_16, c16_9, c9_2, c18_1, m0_0, n0_0, m0_1, n0_1, m1_0, n1_0, m2_0, m2_1, n2_1, m2_2, n2_2, m3_0, m3_1, m3_2, j0, j3, j4, j5, j6, j7, j8, j10, j11, j12, j13, j14, j15, j16, j19⟩
          have hD : D 6 = false := hD
          have d4 : D 4 = true := hd ⟨4, .data⟩ (by simp) rfl
          have q4 := j4 d4
          have d5 : D 5 = true := hd ⟨5, .data⟩ (by simp) rfl
          have q5 := j5 d5
          simp -implicitDefEqProofs (disch := omega) only [go_sem, e1, e2, e3, e4, e8, e9, e10, e11, s4, s8, sC, sX, q4, q5, hlv, htk, hLn v, hLP, hZk, hg8, hgt, and_self]
          repeat' apply And.intro
          all_goals first | assumption | (intro _; assumption) | trivial | (simp -implicitDefEqProofs (contextual := true) (disch := first | assumption | omega) only [go_sem, m0_1, n0_1, m1_0, n1_0, m2_0, m2_2, n2_2, m3_0, m3_2, j0, j3, j4, j5, j6, j7, j8, j10, j11, j12, j13, j14, j15, j16, j19, m0_0, n0_0, m2_1, n2_1, m3_1, implies_true, forall_const, false_implies, true_implies]; done) | (intro h; exact killS_of (m2_0 h) (hLk v _ rfl)) | (intro h1 h2; exact killS_of (m2_1 h1 h2) (hLk v _ rfl)) | (intros; contradiction) | trace_state
        · rintro D hD hd E σ ⟨e1, e2, e3, e4, e8, e9, e10, e11, s4, s8, sC, sX, c20_18, c18_17, c17_16, c16_9, c9_2, c18_1, m0_0, n0_0, m0_1, n0_1, m1_0, n1_0, m2_0, m2_1, n2_1, m2_2, n2_2, m3_0, m3_1, m3_2, j0, j3, j4, j5, j6, j7, j8, j10, j11, j12, j13, j14, j15, j16, j19⟩
          have hD : D 7 = false := hD
          have d6 : D 6 = true := hd ⟨6, .data⟩ (by simp) rfl
          have q6 := j6 d6
          simp -implicitDefEqProofs (disch := omega) only [go_sem, e1, e2, e3, e4, e8, e9, e10, e11, s4, s8, sC, sX, q6, hlv, htk, hLn v, hLP, hZk, hg8, hgt, and_self]
          repeat' apply And.intro
          all_goals first | assumption | (intro _; assumption) | trivial | (simp -implicitDefEqProofs (contextual := true) (disch := first | assumption | omega) only [go_sem, m0_1, n0_1, m1_0, n1_0, m2_0, m2_2, n2_2, m3_0, m3_2, j0, j3, j4, j5, j6, j7, j8, j10, j11, j12, j13, j14, j15, j16, j19, m0_0, n0_0, m2_1, n2_1, m3_1, implies_true, forall_const, false_implies, true_implies]; done) | (intro h; exact killS_of (m2_0 h) (hLk v _ rfl)) | (intro h1 h2; exact killS_of (m2_1 h1 h2) (hLk v _ rfl)) | (intros; contradiction) | trace_state
        · rintro D hD hd E σ ⟨e1, e2, e3, e4, e8, e9, e10, e11, s4, s8, sC, sX, c20_18, c18_17, c17_16, c16_9, c9_2, c18_1, m0_0, n0_0, m0_1, n0_1, m1_0, n1_0, m2_0, m2_1, n2_1, m2_2, n2_2, m3_0, m3_1, m3_2, j0, j3, j4, j5, j6, j7, j8, j10, j11, j12, j13, j14, j15, j16, j19⟩
          have hD : D 8 = false := hD
          have d7 : D 7 = true := hd ⟨7, .data⟩ (by simp) rfl
          have q7 := j7 d7
          simp -implicitDefEqProofs (disch := omega) only [go_sem, e1, e2, e3, e4, e8, e9, e10, e11, s4, s8, sC, sX, q7, hlv, htk, hLn v, hLP, hZk, hg8, hgt, and_self]
          repeat' apply And.intro
          all_goals first | assumption | (intro _; assumption) | trivial | (simp -implicitDefEqProofs (contextual := true) (disch := first | assumption | omega) only [go_sem, m0_1, n0_1, m1_0, n1_0, m2_0, m2_2, n2_2, m3_0, m3_2, j0, j3, j4, j5, j6, j7, j8, j10, j11, j12, j13, j14, j15, j16, j19, m0_0, n0_0, m2_1, n2_1, m3_1, implies_true, forall_const, false_implies, true_implies]; done) | (intro h; exact killS_of (m2_0 h) (hLk v _ rfl)) | (intro h1 h2; exact killS_of (m2_1 h1 h2) (hLk v _ rfl)) | (intros; contradiction) | trace_state
        · rintro D hD hd E σ ⟨e1, e2, e3, e4, e8, e9, e10, e11, s4, s8, sC, sX, c20_18, c18_17, c17_16, c16_9, c9_2, c18_1, m0_0, n0_0, m0_1, n0_1, m1_0, n1_0, m2_0, m2_1, n2_1, m2_2, n2_2, m3_0, m3_1, m3_2, j0, j3, j4, j5, j6, j7, j8, j10, j11, j12, j13, j14, j15, j16, j19⟩
          have hD : D 9 = false := hD
          have d2 : D 2 = true := hd ⟨2, .data⟩ (by simp) rfl
          have d8 : D 8 = true := hd ⟨8, .data⟩ (by simp) rfl
          have q8 := j8 d8
          have g0 := m0_0 d2 hD
          have f0 := n0_0 d2 hD
          simp -implicitDefEqProofs (disch := omega) only [go_sem, e1, e2, e3, e4, e8, e9, e10, e11, s4, s8, sC, sX, q8, g0, f0, hlv, htk, hLn v, hLP, hZk, hg8, hgt, and_self]
          repeat' apply And.intro
          all_goals first | assumption | (intro _; assumption) | trivial | (intro h; intros; have hh := (c16_9 h); rw [hD] at hh; cases hh; done) | (intro h; intros; have hh := (c16_9 (c17_16 h)); rw [hD] at hh; cases hh; done) | (intro h; intros; have hh := (c16_9 (c17_16 (c18_17 h))); rw [hD] at hh; cases hh; done) | (intro h; intros; have hh := (c16_9 (c17_16 (c18_17 (c20_18 h)))); rw [hD] at hh; cases hh; done) | (simp -implicitDefEqProofs (contextual := true) (disch := first | assumption | omega) only [go_sem, m0_1, n0_1, m1_0, n1_0, m2_0, m2_2, n2_2, m3_0, m3_2, j0, j3, j4, j5, j6, j7, j8, j10, j11, j12, j13, j14, j15, j16, j19, m0_0, n0_0, m2_1, n2_1, m3_1, implies_true, forall_const, false_implies, true_implies]; done) | (intro h; exact killS_of (m2_0 h) (hLk v _ rfl)) | (intro h1 h2; exact killS_of (m2_1 h1 h2) (hLk v _ rfl)) | (intros; contradiction) | trace_state
        · rintro D hD hd E σ ⟨e1, e2, e3, e4, e8, e9, e10, e11, s4, s8, sC, sX, c20_18, c18_17, c17_16, c16_9, c9_2, c18_1, m0_0, n0_0, m0_1, n0_1, m1_0, n1_0, m2_0, m2_1, n2_1, m2_2, n2_2, m3_0, m3_1, m3_2, j0, j3, j4, j5, j6, j7, j8, j10, j11, j12, j13, j14, j15, j16, j19⟩
          have hD : D 10 = false := hD
          simp -implicitDefEqProofs (disch := omega) only [go_sem, e1, e2, e3, e4, e8, e9, e10, e11, s4, s8, sC, sX, hlv, htk, hLn v, hLP, hZk, hg8, hgt, and_self]
          repeat' apply And.intro
          all_goals first | assumption | (intro _; assumption) | trivial | (simp -implicitDefEqProofs (contextual := true) (disch := first | assumption | omega) only [go_sem, m0_1, n0_1, m1_0, n1_0, m2_0, m2_2, n2_2, m3_0, m3_2, j0, j3, j4, j5, j6, j7, j8, j10, j11, j12, j13, j14, j15, j16, j19, m0_0, n0_0, m2_1, n2_1, m3_1, implies_true, forall_const, false_implies, true_implies]; done) | (intro h; exact killS_of (m2_0 h) (hLk v _ rfl)) | (intro h1 h2; exact killS_of (m2_1 h1 h2) (hLk v _ rfl)) | (intros; contradiction) | trace_state
        · rintro D hD hd E σ ⟨e1, e2, e3, e4, e8, e9, e10, e11, s4, s8, sC, sX, c20_18, c18_17, c17_16, c16_9, c9_2, c18_1, m0_0, n0_0, m0_1, n0_1, m1_0, n1_0, m2_0, m2_1, n2_1, m2_2, n2_2, m3_0, m3_1, m3_2, j0, j3, j4, j5, j6, j7, j8, j10, j11, j12, j13, j14, j15, j16, j19⟩
          have hD : D 11 = false := hD
          have d10 : D 10 = true := hd ⟨10, .data⟩ (by simp) rfl
          have q10 := j10 d10
          simp -implicitDefEqProofs (disch := omega) only [go_sem, e1, e2, e3, e4, e8, e9, e10, e11, s4, s8, sC, sX, q10, hlv, htk, hLn v, hLP, hZk, hg8, hgt, and_self]
          repeat' apply And.intro
          all_goals first | assumption | (intro _; assumption) | trivial | (simp -implicitDefEqProofs (contextual := true) (disch := first | assumption | omega) only [go_sem, m0_1, n0_1, m1_0, n1_0, m2_0, m2_2, n2_2, m3_0, m3_2, j0, j3, j4, j5, j6, j7, j8, j10, j11, j12, j13, j14, j15, j16, j19, m0_0, n0_0, m2_1, n2_1, m3_1, implies_true, forall_const, false_implies, true_implies]; done) | (intro h; exact killS_of (m2_0 h) (hLk v _ rfl)) | (intro h1 h2; exact killS_of (m2_1 h1 h2) (hLk v _ rfl)) | (intros; contradiction) | trace_state
        · rintro D hD hd E σ ⟨e1, e2, e3, e4, e8, e9, e10, e11, s4, s8, sC, sX, c20_18, c18_17, c17_16, c16_9, c9_2, c18_1, m0_0, n0_0, m0_1, n0_1, m1_0, n1_0, m2_0, m2_1, n2_1, m2_2, n2_2, m3_0, m3_1, m3_2, j0, j3, j4, j5, j6, j7, j8, j10, j11, j12, j13, j14, j15, j16, j19⟩
          have hD : D 12 = false := hD
          simp -implicitDefEqProofs (disch := omega) only [go_sem, e1, e2, e3, e4, e8, e9, e10, e11, s4, s8, sC, sX, hlv, htk, hLn v, hLP, hZk, hg8, hgt, and_self]
          repeat' apply And.intro
          all_goals first | assumption | (intro _; assumption) | trivial | (simp -implicitDefEqProofs (contextual := true) (disch := first | assumption | omega) only [go_sem, m0_1, n0_1, m1_0, n1_0, m2_0, m2_2, n2_2, m3_0, m3_2, j0, j3, j4, j5, j6, j7, j8, j10, j11, j12, j13, j14, j15, j16, j19, m0_0, n0_0, m2_1, n2_1, m3_1, implies_true, forall_const, false_implies, true_implies]; done) | (intro h; exact killS_of (m2_0 h) (hLk v _ rfl)) | (intro h1 h2; exact killS_of (m2_1 h1 h2) (hLk v _ rfl)) | (intros; contradiction) | trace_state
        · rintro D hD hd E σ ⟨e1, e2, e3, e4, e8, e9, e10, e11, s4, s8, sC, sX, c20_18, c18_17, c17_16, c16_9, c9_2, c18_1, m0_0, n0_0, m0_1, n0_1, m1_0, n1_0, m2_0, m2_1, n2_1, m2_2, n2_2, m3_0, m3_1, m3_2, j0, j3, j4, j5, j6, j7, j8, j10, j11, j12, j13, j14, j15, j16, j19⟩
          have hD : D 13 = false := hD
          have d11 : D 11 = true := hd ⟨11, .data⟩ (by simp) rfl
          have q11 := j11 d11
          have d12 : D 12 = true := hd ⟨12, .data⟩ (by simp) rfl
          have q12 := j12 d12
          simp -implicitDefEqProofs (disch := omega) only [go_sem, e1, e2, e3, e4, e8, e9, e10, e11, s4, s8, sC, sX, q11, q12, hlv, htk, hLn v, hLP, hZk, hg8, hgt, and_self]
          repeat' apply And.intro
          all_goals first | assumption | (intro _; assumption) | trivial | (simp -implicitDefEqProofs (contextual := true) (disch := first | assumption | omega) only [go_sem, m0_1, n0_1, m1_0, n1_0, m2_0, m2_2, n2_2, m3_0, m3_2, j0, j3, j4, j5, j6, j7, j8, j10, j11, j12, j13, j14, j15, j16, j19, m0_0, n0_0, m2_1, n2_1, m3_1, implies_true, forall_const, false_implies, true_implies]; done) | (intro h; exact killS_of (m2_0 h) (hLk v _ rfl)) | (intro h1 h2; exact killS_of (m2_1 h1 h2) (hLk v _ rfl)) | (intros; contradiction) | trace_state
        · rintro D hD hd E σ ⟨e1, e2, e3, e4, e8, e9, e10, e11, s4, s8, sC, sX, c20_18, c18_17, c17_16, c16_9, c9_2, c18_1, m0_0, n0_0, m0_1, n0_1, m1_0, n1_0, m2_0, m2_1, n2_1, m2_2, n2_2, m3_0, m3_1, m3_2, j0, j3, j4, j5, j6, j7, j8, j10, j11, j12, j13, j14, j15, j16, j19⟩
          have hD : D 14 = false := hD
          have d13 : D 13 = true := hd ⟨13, .data⟩ (by simp) rfl
          have q13 := j13 d13
          simp -implicitDefEqProofs (disch := omega) only [go_sem, e1, e2, e3, e4, e8, e9, e10, e11, s4, s8, sC, sX, q13, hlv, htk, hLn v, hLP, hZk, hg8, hgt, and_self]
          repeat' apply And.intro
          all_goals first | assumption | (intro _; assumption) | trivial | (simp -implicitDefEqProofs (contextual := true) (disch := first | assumption | omega) only [go_sem, m0_1, n0_1, m1_0, n1_0, m2_0, m2_2, n2_2, m3_0, m3_2, j0, j3, j4, j5, j6, j7, j8, j10, j11, j12, j13, j14, j15, j16, j19, m0_0, n0_0, m2_1, n2_1, m3_1, implies_true, forall_const, false_implies, true_implies]; done) | (intro h; exact killS_of (m2_0 h) (hLk v _ rfl)) | (intro h1 h2; exact killS_of (m2_1 h1 h2) (hLk v _ rfl)) | (intros; contradiction) | trace_state
        · rintro D hD hd E σ ⟨e1, e2, e3, e4, e8, e9, e10, e11, s4, s8, sC, sX, c20_18, c18_17, c17_16, c16_9, c9_2, c18_1, m0_0, n0_0, m0_1, n0_1, m1_0, n1_0, m2_0, m2_1, n2_1, m2_2, n2_2, m3_0, m3_1, m3_2, j0, j3, j4, j5, j6, j7, j8, j10, j11, j12, j13, j14, j15, j16, j19⟩
          have hD : D 15 = false := hD
          have d14 : D 14 = true := hd ⟨14, .data⟩ (by simp) rfl
          have q14 := j14 d14
          simp -implicitDefEqProofs (disch := omega) only [go_sem, e1, e2, e3, e4, e8, e9, e10, e11, s4, s8, sC, sX, q14, hlv, htk, hLn v, hLP, hZk, hg8, hgt, and_self]
          repeat' apply And.intro
          all_goals first | assumption | (intro _; assumption) | trivial | (simp -implicitDefEqProofs (contextual := true) (disch := first | assumption | omega) only [go_sem, m0_1, n0_1, m1_0, n1_0, m2_0, m2_2, n2_2, m3_0, m3_2, j0, j3, j4, j5, j6, j7, j8, j10, j11, j12, j13, j14, j15, j16, j19, m0_0, n0_0, m2_1, n2_1, m3_1, implies_true, forall_const, false_implies, true_implies]; done) | (intro h; exact killS_of (m2_0 h) (hLk v _ rfl)) | (intro h1 h2; exact killS_of (m2_1 h1 h2) (hLk v _ rfl)) | (intros; contradiction) | trace_state
        · rintro D hD hd E σ ⟨e1, e2, e3, e4, e8, e9, e10, e11, s4, s8, sC, sX, c20_18, c18_17, c17_16, c16_9, c9_2, c18_1, m0_0, n0_0, m0_1, n0_1, m1_0, n1_0, m2_0, m2_1, n2_1, m2_2, n2_2, m3_0, m3_1, m3_2, j0, j3, j4, j5, j6, j7, j8, j10, j11, j12, j13, j14, j15, j16, j19⟩
          have hD : D 16 = false := hD
          have d9 : D 9 = true := hd ⟨9, .data⟩ (by simp) rfl
          have d15 : D 15 = true := hd ⟨15, .data⟩ (by simp) rfl
          have q15 := j15 d15
          have g0 := m0_1 d9
          have f0 := n0_1 d9
          simp -implicitDefEqProofs (disch := omega) only [go_sem, e1, e2, e3, e4, e8, e9, e10, e11, s4, s8, sC, sX, q15, g0, f0, hlv, htk, hLn v, hLP, hZk, hg8, hgt, and_self]
          repeat' apply And.intro
          all_goals first | assumption | (intro _; assumption) | trivial | (intro h; intros; have hh := (c17_16 h); rw [hD] at hh; cases hh; done) | (intro h; intros; have hh := (c17_16 (c18_17 h)); rw [hD] at hh; cases hh; done) | (intro h; intros; have hh := (c17_16 (c18_17 (c20_18 h))); rw [hD] at hh; cases hh; done) | (intro _ h; rw [d9] at h; cases h; done) | (intro h; rw [d9] at h; cases h; done) | (simp -implicitDefEqProofs (contextual := true) (disch := first | assumption | omega) only [go_sem, m0_1, n0_1, m1_0, n1_0, m2_0, m2_2, n2_2, m3_0, m3_2, j0, j3, j4, j5, j6, j7, j8, j10, j11, j12, j13, j14, j15, j16, j19, m0_0, n0_0, m2_1, n2_1, m3_1, implies_true, forall_const, false_implies, true_implies]; done) | (intro h; exact killS_of (m2_0 h) (hLk v _ rfl)) | (intro h1 h2; exact killS_of (m2_1 h1 h2) (hLk v _ rfl)) | (intros; contradiction) | trace_state
        · rintro D hD hd E σ ⟨e1, e2, e3, e4, e8, e9, e10, e11, s4, s8, sC, sX, c20_18, c18_17, c17_16, c16_9, c9_2, c18_1, m0_0, n0_0, m0_1, n0_1, m1_0, n1_0, m2_0, m2_1, n2_1, m2_2, n2_2, m3_0, m3_1, m3_2, j0, j3, j4, j5, j6, j7, j8, j10, j11, j12, j13, j14, j15, j16, j19⟩
          have hD : D 17 = false := hD
          have d16 : D 16 = true := hd ⟨16, .data⟩ (by simp) rfl
          have q16 := j16 d16
          have g0 := m0_1 (c16_9 d16)
          have f0 := n0_1 (c16_9 d16)
          simp -implicitDefEqProofs (disch := omega) only [go_sem, e1, e2, e3, e4, e8, e9, e10, e11, s4, s8, sC, sX, q16, g0, f0, hlv, htk, hLn v, hLP, hZk, hg8, hgt, and_self]
          repeat' apply And.intro
          all_goals first | assumption | (intro _; assumption) | trivial | (intro h; intros; have hh := (c18_17 h); rw [hD] at hh; cases hh; done) | (intro h; intros; have hh := (c18_17 (c20_18 h)); rw [hD] at hh; cases hh; done) | (intro _ h; rw [(c16_9 d16)] at h; cases h; done) | (intro h; rw [(c16_9 d16)] at h; cases h; done) | (simp -implicitDefEqProofs (contextual := true) (disch := first | assumption | omega) only [go_sem, m0_1, n0_1, m1_0, n1_0, m2_0, m2_2, n2_2, m3_0, m3_2, j0, j3, j4, j5, j6, j7, j8, j10, j11, j12, j13, j14, j15, j16, j19, m0_0, n0_0, m2_1, n2_1, m3_1, implies_true, forall_const, false_implies, true_implies]; done) | (intro h; exact killS_of (m2_0 h) (hLk v _ rfl)) | (intro h1 h2; exact killS_of (m2_1 h1 h2) (hLk v _ rfl)) | (intros; contradiction) | trace_state
        · rintro D hD hd E σ ⟨e1, e2, e3, e4, e8, e9, e10, e11, s4, s8, sC, sX, c20_18, c18_17, c17_16, c16_9, c9_2, c18_1, m0_0, n0_0, m0_1, n0_1, m1_0, n1_0, m2_0, m2_1, n2_1, m2_2, n2_2, m3_0, m3_1, m3_2, j0, j3, j4, j5, j6, j7, j8, j10, j11, j12, j13, j14, j15, j16, j19⟩
          have hD : D 18 = false := hD
          have d1 : D 1 = true := hd ⟨1, .data⟩ (by simp) rfl
          have d17 : D 17 = true := hd ⟨17, .data⟩ (by simp) rfl
          have g1 := m1_0 d17
          have f1 := n1_0 d17
          have g2 := m2_1 d1 hD
          have f2 := n2_1 d1 hD
          have g3 := m3_0 hD
          simp -implicitDefEqProofs (disch := omega) only [go_sem, e1, e2, e3, e4, e8, e9, e10, e11, s4, s8, sC, sX, g1, f1, g2, f2, g3, hlv, htk, hLn v, hLP, hZk, hg8, hgt, and_self]
          repeat' apply And.intro
          all_goals first | assumption | (intro _; assumption) | trivial | (intro h; intros; have hh := (c20_18 h); rw [hD] at hh; cases hh; done) | (intro _ h; rw [(c16_9 (c17_16 d17))] at h; cases h; done) | (intro h; rw [(c16_9 (c17_16 d17))] at h; cases h; done) | (intro _ h; rw [d1] at h; cases h; done) | (intro h; rw [d1] at h; cases h; done) | (simp -implicitDefEqProofs (contextual := true) (disch := first | assumption | omega) only [go_sem, m0_1, n0_1, m1_0, n1_0, m2_0, m2_2, n2_2, m3_0, m3_2, j0, j3, j4, j5, j6, j7, j8, j10, j11, j12, j13, j14, j15, j16, j19, m0_0, n0_0, m2_1, n2_1, m3_1, implies_true, forall_const, false_implies, true_implies]; done) | (intro h; exact killS_of (m2_0 h) (hLk v _ rfl)) | (intro h1 h2; exact killS_of (m2_1 h1 h2) (hLk v _ rfl)) | (intros; contradiction) | trace_state
        · rintro D hD hd E σ ⟨e1, e2, e3, e4, e8, e9, e10, e11, s4, s8, sC, sX, c20_18, c18_17, c17_16, c16_9, c9_2, c18_1, m0_0, n0_0, m0_1, n0_1, m1_0, n1_0, m2_0, m2_1, n2_1, m2_2, n2_2, m3_0, m3_1, m3_2, j0, j3, j4, j5, j6, j7, j8, j10, j11, j12, j13, j14, j15, j16, j19⟩
          have hD : D 19 = false := hD
          simp -implicitDefEqProofs (disch := omega) only [go_sem, e1, e2, e3, e4, e8, e9, e10, e11, s4, s8, sC, sX, hlv, htk, hLn v, hLP, hZk, hg8, hgt, and_self]
          repeat' apply And.intro
          all_goals first | assumption | (intro _; assumption) | trivial | (simp -implicitDefEqProofs (contextual := true) (disch := first | assumption | omega) only [go_sem, m0_1, n0_1, m1_0, n1_0, m2_0, m2_2, n2_2, m3_0, m3_2, j0, j3, j4, j5, j6, j7, j8, j10, j11, j12, j13, j14, j15, j16, j19, m0_0, n0_0, m2_1, n2_1, m3_1, implies_true, forall_const, false_implies, true_implies]; done) | (intro h; exact killS_of (m2_0 h) (hLk v _ rfl)) | (intro h1 h2; exact killS_of (m2_1 h1 h2) (hLk v _ rfl)) | (intros; contradiction) | trace_state
        · rintro D hD hd E σ ⟨e1, e2, e3, e4, e8, e9, e10, e11, s4, s8, sC, sX, c20_18, c18_17, c17_16, c16_9, c9_2, c18_1, m0_0, n0_0, m0_1, n0_1, m1_0, n1_0, m2_0, m2_1, n2_1, m2_2, n2_2, m3_0, m3_1, m3_2, j0, j3, j4, j5, j6, j7, j8, j10, j11, j12, j13, j14, j15, j16, j19⟩
          have hD : D 20 = false := hD
          have d18 : D 18 = true := hd ⟨18, .data⟩ (by simp) rfl
          have d19 : D 19 = true := hd ⟨19, .data⟩ (by simp) rfl
          have q19 := j19 d19
          have g2 := m2_2 d18
          have f2 := n2_2 d18
          have g3 := m3_1 d18 hD
          simp -implicitDefEqProofs (disch := omega) only [go_sem, e1, e2, e3, e4, e8, e9, e10, e11, s4, s8, sC, sX, q19, g2, f2, g3, hlv, htk, hLn v, hLP, hZk, hg8, hgt, and_self]
          repeat' apply And.intro
          all_goals first | assumption | (intro _; assumption) | trivial | (intro _ h; rw [(c16_9 (c17_16 (c18_17 d18)))] at h; cases h; done) | (intro h; rw [(c16_9 (c17_16 (c18_17 d18)))] at h; cases h; done) | (intro _ h; rw [(c18_1 d18)] at h; cases h; done) | (intro h; rw [(c18_1 d18)] at h; cases h; done) | (intro _ h; rw [d18] at h; cases h; done) | (intro h; rw [d18] at h; cases h; done) | (intro _ h; rw [d18] at h; cases h; done) | (intro h; rw [d18] at h; cases h; done) | (simp -implicitDefEqProofs (contextual := true) (disch := first | assumption | omega) only [go_sem, m0_1, n0_1, m1_0, n1_0, m2_0, m2_2, n2_2, m3_0, m3_2, j0, j3, j4, j5, j6, j7, j8, j10, j11, j12, j13, j14, j15, j16, j19, m0_0, n0_0, m2_1, n2_1, m3_1, implies_true, forall_const, false_implies, true_implies]; done) | (intro h; exact killS_of (m2_0 h) (hLk v _ rfl)) | (intro h1 h2; exact killS_of (m2_1 h1 h2) (hLk v _ rfl)) | (intros; contradiction) | trace_state
      · rintro D E σ hD ⟨e1, e2, e3, e4, e8, e9, e10, e11, s4, s8, sC, sX, c20_18, c18_17, c17_16, c16_9, c9_2, c18_1, m0_0, n0_0, m0_1, n0_1, m1_0, n1_0, m2_0, m2_1, n2_1, m2_2, n2_2, m3_0, m3_1, m3_2, j0, j3, j4, j5, j6, j7, j8, j10, j11, j12, j13, j14, j15, j16, j19⟩
        have g0 := m0_1 (hD 9 (by decide))
        have f0 := n0_1 (hD 9 (by decide))
        have g1 := m1_0 (hD 17 (by decide))
        have f1 := n1_0 (hD 17 (by decide))
        have g2 := m2_2 (hD 18 (by decide))
        have f2 := n2_2 (hD 18 (by decide))
        have g3 := m3_2 (hD 20 (by decide))
        have q0 := j0 (hD 0 (by decide))
        have q3 := j3 (hD 3 (by decide))
        have q4 := j4 (hD 4 (by decide))
        have q5 := j5 (hD 5 (by decide))
        have q6 := j6 (hD 6 (by decide))
        have q7 := j7 (hD 7 (by decide))
        have q8 := j8 (hD 8 (by decide))
        have q10 := j10 (hD 10 (by decide))
        have q11 := j11 (hD 11 (by decide))
        have q12 := j12 (hD 12 (by decide))
        have q13 := j13 (hD 13 (by decide))
        have q14 := j14 (hD 14 (by decide))
        have q15 := j15 (hD 15 (by decide))
        have q16 := j16 (hD 16 (by decide))
        have q19 := j19 (hD 19 (by decide))
        clear c20_18 c18_17 c17_16 c16_9 c9_2 c18_1 m0_0 n0_0 m0_1 n0_1 m1_0 n1_0 m2_0 m2_1 n2_1 m2_2 n2_2 m3_0 m3_1 m3_2 j0 j3 j4 j5 j6 j7 j8 j10 j11 j12 j13 j14 j15 j16 j19 hD
        by_cases hvj : v = j
        · subst hvj
          refine rn_sem 62915072 62914625 ?_
          refine reg_mk Plain.mono ?_
          simp -implicitDefEqProofs (disch := omega) only [go_sem, e1, e2, e3, e4, e8, e9, e10, e11, s4, s8, sC, sX, hZk, hZf, hLeq', g0, g2, g3]
          refine againQ_mk (n - 1) (by omega) ⟨v + 1, by omega, ?_⟩
          simp -implicitDefEqProofs (disch := omega) only [go_sem, e1, e2, e3, e4, e8, e9, e10, e11, s4, s8, sC, sX, hZk, hZf, hLeq', hZeq, g0, g2, g3]
          simp
        · refine freeze_reg Plain.mono [62915072] ?_
          have hnam : AV.namesL (notI (notI (inI [62915072]))) (L v ++ [.agg [.own 62915072 1 0 8, .v (.string (gd p v).2)]]) = true := namesL_last _ _ _ (by rfl)
          have hLf' : ∀ r σ, (L v).map (frzE (notI (inI [62915072])) r σ) = L v := fun r σ => hLf v _ r σ (by rfl)
          have hLne2 := hLne' hvj
          have hZn := hZne v hvj
          simp -implicitDefEqProofs (disch := omega) only [go_sem, e1, e2, e3, e4, e8, e9, e10, e11, s4, s8, sC, sX, hZk, hZf, hLf', hnam, hLne2, g0, g2, g3]
          refine againQ_mk (n - 1) (by omega) ⟨v + 1, by omega, ?_⟩
          simp -implicitDefEqProofs (disch := omega) only [go_sem, e1, e2, e3, e4, e8, e9, e10, e11, s4, s8, sC, sX, hZk, hZf, hLf', hLne2, hnam, hg8, hgt, List.map_append, List.map_cons, List.map_nil, g0, g2, g3]
          exact ⟨by simp, hZn⟩
    · obtain rfl : v = 6 := by omega
      simp -implicitDefEqProofs (disch := omega) only [go_sem, e1, e2, e3, e4, e8, e9, e10, e11, s4, s8, sC, s10, sP, sX, hZk]
      refine callC_at pk ?_
      simp -implicitDefEqProofs (disch := omega) only [go_sem, e1, e2, e3, e4, e8, e9, e10, e11, s4, s8, sC, s10, sP, sX, hZk, hLo, hLi]
      refine branch_join (fun E σ => E 65 = B (decide (k = 0 ∨ k = 1)) ∧ E 51 = I k ∧ E 1 = I how ∧ E 2 = I x ∧ E 3 = I y ∧ E 4 = .ptr 62914624 4 0 0 ∧ E 8 = .ptr 62914688 4 0 0 ∧ E 9 = B false ∧ E 10 = .ptr 62914720 4 0 0 ∧ E 11 = I (6 : Nat) ∧ σ 62914624 = some ⟨51, 4, [.agg [I h, CL l, Str s, RPL p]]⟩ ∧ σ 62914688 = some ⟨51, 4, [.agg [I 0, .v (.slice none 0 0), Str ByteArray.empty, .v (.slice none 0 0)]]⟩ ∧ σ 62914816 = some ⟨30, 5, l.map CH⟩ ∧ σ 62914720 = some ⟨51, 4, [.agg [I h, .own 62914816 5 0 l.length, Str s, .own 62914721 2 0 6]]⟩ ∧ σ 62914721 = some ⟨35, 2, L 6⟩ ∧ σ 62914625 = Z 6) (fun h0 => ?_) (fun h0 => ?_) ?_
      · simp -implicitDefEqProofs (disch := omega) only [go_sem, e1, e2, e3, e4, e8, e9, e10, e11, s4, s8, sC, s10, sP, sX, h0, hZk, hLo, hLi]
        try simp
      · simp -implicitDefEqProofs (disch := omega) only [go_sem, e1, e2, e3, e4, e8, e9, e10, e11, s4, s8, sC, s10, sP, sX, h0, hZk, hLo, hLi]
        try (by_cases h1 : k = 1 <;> simp [h1])
      clear e1 e2 e3 e4 e8 e9 e10 e11 s4 s8 sC s10 sP sX hc E σ
      rintro E σ ⟨e65, e51, e1, e2, e3, e4, e8, e9, e10, e11, s4, s8, sC, s10, sP, sX⟩
      simp -implicitDefEqProofs (disch := omega) only [go_sem, e1, e2, e3, e4, e8, e9, e10, e11, s4, s8, sC, s10, sP, sX, e65, e51, hZk, hLo, hLi]
      have hpl : ∀ t ∈ p, t.1.length ≤ 100 := fun t ht => by have := (hpt t ht).1; omega
      have hLq : k ≠ 4 → L 6 = p.map RP := fun hk4 => by
        have hj4 : j = 6 := by rw [hj, if_neg hk4]
        rw [hL]; simp only; rw [lsR_ge (by rw [List.length_take]; omega), List.take_of_length_le (by omega)]
      refine branch_nq (fun E σ => E 4 = .ptr 62914624 4 0 0 ∧ E 8 = .ptr 62914688 4 0 0 ∧ E 9 = B false ∧ E 10 = .ptr 62914720 4 0 0 ∧ σ 62914624 = some ⟨51, 4, [.agg [I h, CL l, Str s, RPL p]]⟩ ∧ σ 62914688 = some ⟨51, 4, [.agg [I 0, .v (.slice none 0 0), Str ByteArray.empty, .v (.slice none 0 0)]]⟩ ∧ ∃ (ll : List Ch) (pv : List AV) (pp : List Tot), σ 62914816 = some ⟨30, 5, ll.map CH⟩ ∧ σ 62914720 = some ⟨51, 4, [.agg [I b.h, .own 62914816 5 0 b.l.length, Str b.s, .own 62914721 2 0 b.p.length]]⟩ ∧ σ 62914721 = some ⟨35, 2, pv⟩ ∧ ll.take b.l.length = b.l ∧ b.l.length ≤ 200 ∧ pp.take b.p.length = b.p ∧ (b.p.length ≤ 100 ∧ ∀ t ∈ b.p, t.1.length ≤ 100) ∧ PathFrz 62914625 (σ 62914625) pv pp) (fun h01 => ?_) (fun h01 => ?_) ?_
      · have hLp := hLq (by omega)
        simp -implicitDefEqProofs (disch := omega) only [go_sem, e1, e2, e3, e4, e8, e9, e10, e11, s4, s8, sC, s10, sP, sX, e65, e51, hZk, hLo, hLi]
        refine branch_mk (fun hl0 => ?_) (fun hl0 => ?_)
        · have pyl := pickR_ev y l.length hy (by omega)
          have byl := pickF_in (c := y) (n := l.length) (by omega)
          rw [if_pos h01, if_pos (by omega)] at hb
          generalize pickF y l.length = yl at *
          obtain ⟨q, hq⟩ : ∃ q : Nat, yl = q := ⟨yl.toNat, by omega⟩
          subst hq
          rw [Int.toNat_natCast] at hb
          subst hb
          rw [hLp] at sP
          simp -implicitDefEqProofs (disch := omega) only [go_sem, e1, e2, e3, e4, e8, e9, e10, e11, s4, s8, sC, s10, sP, sX, e65, e51, hZk]
          refine callC_at pyl ?_
          have hw8 : IntKind.i64.wrap (how.tdiv 8) = how.tdiv 8 := wrap64_of (R64_tdiv (d := 8) (by omega) hh)
          have hbc := bentC_ev (gd l q) (how.tdiv 8) x (R64_tdiv (d := 8) (by omega) hh) (hlt _ (gd_mem l q (by omega)))
          simp -implicitDefEqProofs (disch := omega) only [go_sem, e1, e2, e3, e4, e8, e9, e10, e11, s4, s8, sC, s10, sP, sX, e65, e51, hZk, hw8]
          refine callC_at hbc ?_
          simp -implicitDefEqProofs (disch := omega) only [go_sem, e1, e2, e3, e4, e8, e9, e10, e11, s4, s8, sC, s10, sP, sX, e65, e51, hZk, hw8, and_self]
          exact ⟨l.set q (bentC (gd l q) (how.tdiv 8) x), _, p, by rw [List.map_set], by rw [hp], rfl, List.take_of_length_le (by simp), by omega, List.take_of_length_le (by omega), ⟨by omega, hpl⟩, pathFrz_RP _ _ _⟩
        · rw [if_pos h01, if_neg (by omega)] at hb
          subst hb
          rw [hLp] at sP
          obtain rfl : l = [] := List.eq_nil_of_length_eq_zero (by omega)
          simp -implicitDefEqProofs (disch := omega) only [go_sem, e1, e2, e3, e4, e8, e9, e10, e11, s4, s8, sC, s10, sP, sX, e65, e51, hZk]
          refine callC_at px100 ?_
          simp -implicitDefEqProofs (disch := omega) only [go_sem, e1, e2, e3, e4, e8, e9, e10, e11, s4, s8, sC, s10, sP, sX, e65, e51, hZk, and_self]
          exact ⟨[⟨h, 0, 1, x100, ByteArray.empty⟩], _, p, rfl, by rw [hp], rfl, rfl, List.take_of_length_le (by omega), ⟨by omega, hpl⟩, pathFrz_RP _ _ _⟩
      · simp -implicitDefEqProofs (disch := omega) only [go_sem, e1, e2, e3, e4, e8, e9, e10, e11, s4, s8, sC, s10, sP, sX, e65, e51, hZk, hLo, hLi]
        rw [if_neg h01] at hb
        refine branch_mk (fun h2 => ?_) (fun h2 => ?_)
        · have hLp := hLq (by omega)
          rw [if_pos h2] at hb
          subst hb
          rw [hLp] at sP
          simp -implicitDefEqProofs (disch := omega) only [go_sem, e1, e2, e3, e4, e8, e9, e10, e11, s4, s8, sC, s10, sP, sX, e65, e51, hZk, and_self]
          refine callC_at (sumR_ev s (by omega)) ?_
          simp -implicitDefEqProofs (disch := omega) only [go_sem, e1, e2, e3, e4, e8, e9, e10, e11, s4, s8, sC, s10, sP, sX, e65, e51, hZk, and_self]
          exact ⟨l, _, p, rfl, by rw [hp], rfl, List.take_of_length_le (Nat.le_refl _), by omega, List.take_of_length_le (by omega), ⟨by omega, hpl⟩, pathFrz_RP _ _ _⟩
        rw [if_neg h2] at hb
        simp -implicitDefEqProofs (disch := omega) only [go_sem, e1, e2, e3, e4, e8, e9, e10, e11, s4, s8, sC, s10, sP, sX, e65, e51, hZk, hLo, hLi, h2]
        refine branch_mk (fun h3 => ?_) (fun h3 => ?_)
        · have hLp := hLq (by omega)
          rw [if_pos h3] at hb
          subst hb
          rw [hLp] at sP
          simp -implicitDefEqProofs (disch := omega) only [go_sem, e1, e2, e3, e4, e8, e9, e10, e11, s4, s8, sC, s10, sP, sX, e65, e51, hZk, and_self]
          exact ⟨l, _, p, rfl, by rw [hp], rfl, List.take_of_length_le (Nat.le_refl _), by omega, List.take_of_length_le (by omega), ⟨by omega, hpl⟩, pathFrz_RP _ _ _⟩
        rw [if_neg h3] at hb
        simp -implicitDefEqProofs (disch := omega) only [go_sem, e1, e2, e3, e4, e8, e9, e10, e11, s4, s8, sC, s10, sP, sX, e65, e51, hZk, hLo, hLi, h2, h3]
        refine branch_mk (fun h4 => ?_) (fun h4 => ?_)
        · rw [if_pos h4] at hb
          subst hb
          obtain ⟨q, hq⟩ : ∃ q : Nat, y6 = q := ⟨y6.toNat, by omega⟩
          subst hq
          rw [Int.toNat_natCast]
          obtain ⟨r, hr⟩ : ∃ r : Nat, x8 = r := ⟨x8.toNat, by omega⟩
          subst hr
          rw [Int.toNat_natCast]
          rw [if_pos h4, Int.toNat_natCast] at hj
          have hgq := hpt _ (gd_mem p q (by omega))
          have hLe : L 6 = lsR 62914625 q (gd p q) p := by rw [hL, hj]; simp only; rw [List.take_of_length_le (by omega)]
          have hLat : (L 6)[q]? = some (.agg [.own 62914625 1 0 8, .v (.string (gd p q).2)]) := by
            rw [hLe]; unfold lsR elR; rw [List.getElem?_set_self (by simp; omega)]
          have hZ6 : Z 6 = some ⟨3, 1, (gd p q).1.map I⟩ := by rw [hZ, hj]; simp only; rw [if_pos (by omega)]
          have hLs : AV.namesL (inL [3932282, 3932287, 3932291]) (L 6) = false := hLn 6 _ rfl
          have hgb := hgq.2.1 _ (gd_mem (gd p q).1 r (by have := hgq.1; omega))
          simp -implicitDefEqProofs (disch := omega) only [go_sem, e1, e2, e3, e4, e8, e9, e10, e11, s4, s8, sC, s10, sP, sX, e65, e51, hZk, and_self]
          refine branch_l (by omega) ?_
          simp -implicitDefEqProofs (disch := omega) only [go_sem, e1, e2, e3, e4, e8, e9, e10, e11, s4, s8, sC, s10, sP, sX, e65, e51, hZk, and_self]
          refine callC_at py6 ?_
          simp -implicitDefEqProofs (disch := omega) only [go_sem, e1, e2, e3, e4, e8, e9, e10, e11, s4, s8, sC, s10, sP, sX, e65, e51, hZk, hLs, hLat, hZ6, and_self]
          refine callC_at px8 ?_
          have h8q := hgq.1
          simp -implicitDefEqProofs (disch := omega) only [go_sem, e1, e2, e3, e4, e8, e9, e10, e11, s4, s8, sC, s10, sP, sX, e65, e51, hZk, hLs, hLat, hZ6, h8q, and_self]
          refine callC_at px9 ?_
          simp -implicitDefEqProofs (disch := omega) only [go_sem, e1, e2, e3, e4, e8, e9, e10, e11, s4, s8, sC, s10, sP, sX, e65, e51, hZk, hLs, hLat, hZ6, h8q, and_self]
          rw [hLe]
          refine ⟨l, _, _, rfl, by rw [hp], rfl, List.take_of_length_le (Nat.le_refl _), by omega, List.take_of_length_le (by simp), ⟨by omega, fun t ht => ?_⟩, pathFrz_one (by omega) (by simp [h8q]) rfl⟩
          rcases List.mem_or_eq_of_mem_set ht with h1 | h1
          · exact hpl t h1
          · rw [h1]; simp [h8q]
        have hLp := hLq (by omega)
        rw [hLp] at sP
        rw [if_neg h4] at hb
        simp -implicitDefEqProofs (disch := omega) only [go_sem, e1, e2, e3, e4, e8, e9, e10, e11, s4, s8, sC, s10, sP, sX, e65, e51, hZk, hLo, hLi, h2, h3, h4]
        refine branch_mk (fun h5 => ?_) (fun h5 => ?_)
        · rw [if_pos h5] at hb
          subst hb
          obtain ⟨q, hq⟩ : ∃ q : Nat, y6 = q := ⟨y6.toNat, by omega⟩
          subst hq
          rw [Int.toNat_natCast]
          simp -implicitDefEqProofs (disch := omega) only [go_sem, e1, e2, e3, e4, e8, e9, e10, e11, s4, s8, sC, s10, sP, sX, e65, e51, hZk, and_self]
          refine branch_l (by omega) ?_
          simp -implicitDefEqProofs (disch := omega) only [go_sem, e1, e2, e3, e4, e8, e9, e10, e11, s4, s8, sC, s10, sP, sX, e65, e51, hZk, and_self]
          refine callC_at py6 ?_
          have hgq := hpt _ (gd_mem p q (by omega))
          simp -implicitDefEqProofs (disch := omega) only [go_sem, e1, e2, e3, e4, e8, e9, e10, e11, s4, s8, sC, s10, sP, sX, e65, e51, hZk, and_self]
          refine callC_at (sumR_ev (gd p q).2 (by have := hgq.2.2; omega)) ?_
          simp -implicitDefEqProofs (disch := omega) only [go_sem, e1, e2, e3, e4, e8, e9, e10, e11, s4, s8, sC, s10, sP, sX, e65, e51, hZk, and_self]
          refine ⟨l, _, p.set q ((gd p q).1, shaF (gd p q).2), rfl, by rw [hp], rfl, List.take_of_length_le (Nat.le_refl _), by omega, List.take_of_length_le (by simp), ⟨by omega, fun t ht => ?_⟩, pathFrz_eq _ _ (by rw [List.map_set])⟩
          rcases List.mem_or_eq_of_mem_set ht with h1 | h1
          · exact hpl t h1
          · rw [h1]; exact hpl (gd p q) (gd_mem p q (by omega))
        rw [if_neg h5] at hb
        simp -implicitDefEqProofs (disch := omega) only [go_sem, e1, e2, e3, e4, e8, e9, e10, e11, s4, s8, sC, s10, sP, sX, e65, e51, hZk, hLo, hLi, h2, h3, h4, h5]
        refine branch_mk (fun h6 => ?_) (fun h6 => ?_)
        · rw [if_pos h6] at hb
          subst hb
          simp -implicitDefEqProofs (disch := omega) only [go_sem, e1, e2, e3, e4, e8, e9, e10, e11, s4, s8, sC, s10, sP, sX, e65, e51, hZk, and_self]
          refine branch_l (by omega) ?_
          simp -implicitDefEqProofs (disch := omega) only [go_sem, e1, e2, e3, e4, e8, e9, e10, e11, s4, s8, sC, s10, sP, sX, e65, e51, hZk, and_self]
          have h56 : (p.take 5).length = 5 := by rw [List.length_take, hp]; rfl
          exact ⟨l, _, p, rfl, by rw [h56]; rfl, rfl, List.take_of_length_le (Nat.le_refl _), by omega, by rw [h56], ⟨by omega, fun t ht => hpl t (List.mem_of_mem_take ht)⟩, pathFrz_RP _ _ _⟩
        rw [if_neg h6] at hb
        simp -implicitDefEqProofs (disch := omega) only [go_sem, e1, e2, e3, e4, e8, e9, e10, e11, s4, s8, sC, s10, sP, sX, e65, e51, hZk, hLo, hLi, h2, h3, h4, h5, h6]
        refine branch_mk (fun hl0 => ?_) (fun hl0 => ?_)
        · rw [if_pos (by omega)] at hb
          subst hb
          have hn1 : ((l.length : Int) - 1).toNat - 0 = l.length - 1 := by omega
          have hn2 : (l.take (l.length - 1)).length = l.length - 1 := by rw [List.length_take]; omega
          simp -implicitDefEqProofs (disch := omega) only [go_sem, e1, e2, e3, e4, e8, e9, e10, e11, s4, s8, sC, s10, sP, sX, e65, e51, hZk, hn1, hn2, and_self]
          exact ⟨l, _, p, rfl, by rw [hp], rfl, rfl, by omega, List.take_of_length_le (by omega), ⟨by omega, hpl⟩, pathFrz_RP _ _ _⟩
        · rw [if_neg (by omega)] at hb
          subst hb
          simp -implicitDefEqProofs (disch := omega) only [go_sem, e1, e2, e3, e4, e8, e9, e10, e11, s4, s8, sC, s10, sP, sX, e65, e51, hZk, and_self]
          exact ⟨l, _, p, rfl, by rw [hp]; rfl, rfl, List.take_of_length_le (Nat.le_refl _), by omega, List.take_of_length_le (by omega), ⟨by omega, hpl⟩, pathFrz_RP _ _ _⟩
      · clear e1 e2 e3 e4 e8 e9 e10 e11 s4 s8 sC s10 sP sX e65 e51 E σ
        rintro E σ ⟨e4, e8, e9, e10, s4, s8, ll, pv, pp, sC, s10, sP, hll, hlb, hpp, hpb, hz⟩
        simp -implicitDefEqProofs (disch := omega) only [go_sem, e4, e8, e9, e10, s4, s8, sC, s10, sP]
        refine freeze_sem [62914625] ?_
        have hz' := hz σ rfl
        have a4 : frE (inI [62914625]) σ E 4 = .ptr 62914624 4 0 0 := by simp -implicitDefEqProofs (disch := omega) only [go_sem, e4]
        have a8 : frE (inI [62914625]) σ E 8 = .ptr 62914688 4 0 0 := by simp -implicitDefEqProofs (disch := omega) only [go_sem, e8]
        have a10 : frE (inI [62914625]) σ E 10 = .ptr 62914720 4 0 0 := by simp -implicitDefEqProofs (disch := omega) only [go_sem, e10]
        have b4 : frS (inI [62914625]) σ 62914624 = some ⟨51, 4, [.agg [I h, CL l, Str s, RPL p]]⟩ := by simp -implicitDefEqProofs (disch := omega) only [go_sem, s4]
        have b8 : frS (inI [62914625]) σ 62914688 = some ⟨51, 4, [.agg [I 0, .v (.slice none 0 0), Str ByteArray.empty, .v (.slice none 0 0)]]⟩ := by simp -implicitDefEqProofs (disch := omega) only [go_sem, s8]
        have bC : frS (inI [62914625]) σ 62914816 = some ⟨30, 5, ll.map CH⟩ := by simp -implicitDefEqProofs (disch := omega) only [go_sem, sC]
        have b10 : frS (inI [62914625]) σ 62914720 = some ⟨51, 4, [.agg [I b.h, .own 62914816 5 0 b.l.length, Str b.s, .own 62914721 2 0 b.p.length]]⟩ := by simp -implicitDefEqProofs (disch := omega) only [go_sem, s10]
        have bP : frS (inI [62914625]) σ 62914721 = some ⟨35, 2, pp.map RP⟩ := by
          show (if inI [62914625] 62914721 then none else (σ 62914721).map (frzB (notI (inI [62914625])) (inL []) σ)) = _
          rw [sP, Option.map_some, hz']; rfl
        generalize frE (inI [62914625]) σ E = E' at *
        generalize frS (inI [62914625]) σ = σ' at *
        clear e4 e8 e9 e10 s4 s8 sC s10 sP hz hz' E σ
        obtain ⟨bh, bl, bs, bp⟩ := b
        simp only at hll hlb hpp hpb
        have hl1 : bl.length ≤ ll.length := by have := congrArg List.length hll; rw [List.length_take] at this; omega
        have hp1 : bp.length ≤ pp.length := by have := congrArg List.length hpp; rw [List.length_take] at this; omega
        refine freeze_sem [62914816, 62914721] ?_
        refine region_J (Plain.mono) (fun D E σ => E 4 = .ptr 62914624 4 0 0 ∧ E 8 = .ptr 62914688 4 0 0 ∧ E 10 = .ptr 62914720 4 0 0 ∧ σ 62914624 = some ⟨51, 4, [.agg [I h, CL l, Str s, RPL p]]⟩ ∧ σ 62914720 = some ⟨51, 4, [.agg [I bh, CL bl, Str bs, RPL bp]]⟩ ∧ (D 5 = false → σ 62914688 = some ⟨51, 4, [.agg [I 0, .v (.slice none 0 0), Str ByteArray.empty, .v (.slice none 0 0)]]⟩) ∧ (D 5 = true → σ 62914688 = some ⟨51, 4, [.agg [I bh, CL bl, Str bs, RPL bp]]⟩) ∧ (D 0 = true → E 172 = .agg [I bh, CL bl, Str bs, RPL bp]) ∧ (D 1 = true → E 173 = .agg [I h, CL l, Str s, RPL p]) ∧ (D 2 = true → E 174 = .agg [I bh, CL bl, Str bs, RPL bp]) ∧ (D 3 = true → E 175 = B (decide (h = bh ∧ s = bs ∧ l = bl ∧ p = bp))) ∧ (D 4 = true → E 176 = B (!decide (h = bh ∧ s = bs ∧ l = bl ∧ p = bp))) ∧ (D 6 = true → E 9 = B (!decide (h = bh ∧ s = bs ∧ l = bl ∧ p = bp)))) ?_ ?_ ?_
        · simp -implicitDefEqProofs (disch := omega) only [go_sem, a4, a8, a10, b4, b8, bC, b10, bP, hll, hpp, hl1, hp1, and_self]
          simp
        · simp only [stepsJ, and_true]
          refine ⟨?_, ?_, ?_, ?_, ?_, ?_, ?_⟩
          · rintro D hD hd E σ ⟨e4, e8, e10, s4, s10, m0_0, m0_1, j0, j1, j2, j3, j4, j6⟩
            have hD : D 0 = false := hD
            simp -implicitDefEqProofs (disch := omega) only [go_sem, e4, e8, e10, s4, s10, a4, a8, a10, b4, b8, bC, b10, bP, hll, hpp, hl1, hp1, and_self]
            repeat' apply And.intro
            all_goals first | assumption | (intro _; assumption) | trivial | (simp -implicitDefEqProofs (contextual := true) (disch := first | assumption | omega) only [go_sem, m0_0, m0_1, j0, j1, j2, j3, j4, j6, implies_true, forall_const, false_implies, true_implies]; done) | (intros; contradiction) | trace_state
          · rintro D hD hd E σ ⟨e4, e8, e10, s4, s10, m0_0, m0_1, j0, j1, j2, j3, j4, j6⟩
            have hD : D 1 = false := hD
            simp -implicitDefEqProofs (disch := omega) only [go_sem, e4, e8, e10, s4, s10, a4, a8, a10, b4, b8, bC, b10, bP, hll, hpp, hl1, hp1, and_self]
            repeat' apply And.intro
            all_goals first | assumption | (intro _; assumption) | trivial | (simp -implicitDefEqProofs (contextual := true) (disch := first | assumption | omega) only [go_sem, m0_0, m0_1, j0, j1, j2, j3, j4, j6, implies_true, forall_const, false_implies, true_implies]; done) | (intros; contradiction) | trace_state
          · rintro D hD hd E σ ⟨e4, e8, e10, s4, s10, m0_0, m0_1, j0, j1, j2, j3, j4, j6⟩
            have hD : D 2 = false := hD
            simp -implicitDefEqProofs (disch := omega) only [go_sem, e4, e8, e10, s4, s10, a4, a8, a10, b4, b8, bC, b10, bP, hll, hpp, hl1, hp1, and_self]
            repeat' apply And.intro
            all_goals first | assumption | (intro _; assumption) | trivial | (simp -implicitDefEqProofs (contextual := true) (disch := first | assumption | omega) only [go_sem, m0_0, m0_1, j0, j1, j2, j3, j4, j6, implies_true, forall_const, false_implies, true_implies]; done) | (intros; contradiction) | trace_state
          · rintro D hD hd E σ ⟨e4, e8, e10, s4, s10, m0_0, m0_1, j0, j1, j2, j3, j4, j6⟩
            have hD : D 3 = false := hD
            have d1 : D 1 = true := hd ⟨1, .data⟩ (by simp) rfl
            have q1 := j1 d1
            have d2 : D 2 = true := hd ⟨2, .data⟩ (by simp) rfl
            have q2 := j2 d2
            simp -implicitDefEqProofs (disch := omega) only [go_sem, e4, e8, e10, s4, s10, q1, q2, a4, a8, a10, b4, b8, bC, b10, bP, hll, hpp, hl1, hp1, and_self]
            refine callC_at (same_ev ⟨h, l, s, p⟩ ⟨bh, bl, bs, bp⟩ (show l.length ≤ _ by omega) (show bl.length ≤ _ by omega) (show p.length ≤ _ by omega) (show bp.length ≤ _ by omega) (fun t ht => by have := hpl t ht; omega) (fun t ht => by have := hpb.2 t ht; omega)) ?_
            simp -implicitDefEqProofs (disch := omega) only [go_sem, e4, e8, e10, s4, s10, q1, q2, a4, a8, a10, b4, b8, bC, b10, bP, hll, hpp, hl1, hp1, and_self]
            repeat' apply And.intro
            all_goals first | assumption | (intro _; assumption) | trivial | (simp -implicitDefEqProofs (contextual := true) (disch := first | assumption | omega) only [go_sem, m0_0, m0_1, j0, j1, j2, j3, j4, j6, implies_true, forall_const, false_implies, true_implies]; done) | (intros; contradiction) | trace_state
          · rintro D hD hd E σ ⟨e4, e8, e10, s4, s10, m0_0, m0_1, j0, j1, j2, j3, j4, j6⟩
            have hD : D 4 = false := hD
            have d3 : D 3 = true := hd ⟨3, .data⟩ (by simp) rfl
            have q3 := j3 d3
            simp -implicitDefEqProofs (disch := omega) only [go_sem, e4, e8, e10, s4, s10, q3, a4, a8, a10, b4, b8, bC, b10, bP, hll, hpp, hl1, hp1, and_self]
            repeat' apply And.intro
            all_goals first | assumption | (intro _; assumption) | trivial | (simp -implicitDefEqProofs (contextual := true) (disch := first | assumption | omega) only [go_sem, m0_0, m0_1, j0, j1, j2, j3, j4, j6, implies_true, forall_const, false_implies, true_implies]; done) | (intros; contradiction) | trace_state
          · rintro D hD hd E σ ⟨e4, e8, e10, s4, s10, m0_0, m0_1, j0, j1, j2, j3, j4, j6⟩
            have hD : D 5 = false := hD
            have d0 : D 0 = true := hd ⟨0, .data⟩ (by simp) rfl
            have q0 := j0 d0
            have g0 := m0_0 hD
            simp -implicitDefEqProofs (disch := omega) only [go_sem, e4, e8, e10, s4, s10, q0, g0, a4, a8, a10, b4, b8, bC, b10, bP, hll, hpp, hl1, hp1, and_self]
            repeat' apply And.intro
            all_goals first | assumption | (intro _; assumption) | trivial | (simp -implicitDefEqProofs (contextual := true) (disch := first | assumption | omega) only [go_sem, m0_0, m0_1, j0, j1, j2, j3, j4, j6, implies_true, forall_const, false_implies, true_implies]; done) | (intros; contradiction) | trace_state
          · rintro D hD hd E σ ⟨e4, e8, e10, s4, s10, m0_0, m0_1, j0, j1, j2, j3, j4, j6⟩
            have hD : D 6 = false := hD
            have d4 : D 4 = true := hd ⟨4, .data⟩ (by simp) rfl
            have q4 := j4 d4
            simp -implicitDefEqProofs (disch := omega) only [go_sem, e4, e8, e10, s4, s10, q4, a4, a8, a10, b4, b8, bC, b10, bP, hll, hpp, hl1, hp1, and_self]
            repeat' apply And.intro
            all_goals first | assumption | (intro _; assumption) | trivial | (simp -implicitDefEqProofs (contextual := true) (disch := first | assumption | omega) only [go_sem, m0_0, m0_1, j0, j1, j2, j3, j4, j6, implies_true, forall_const, false_implies, true_implies]; done) | (intros; contradiction) | trace_state
        · rintro D E σ hD ⟨e4, e8, e10, s4, s10, m0_0, m0_1, j0, j1, j2, j3, j4, j6⟩
          have g0 := m0_1 (hD 5 (by decide))
          have q0 := j0 (hD 0 (by decide))
          have q1 := j1 (hD 1 (by decide))
          have q2 := j2 (hD 2 (by decide))
          have q3 := j3 (hD 3 (by decide))
          have q4 := j4 (hD 4 (by decide))
          have q6 := j6 (hD 6 (by decide))
          clear m0_0 m0_1 j0 j1 j2 j3 j4 j6 hD
          simp -implicitDefEqProofs (disch := omega) only [go_sem, e4, e8, e10, s4, s10, g0, q6, Tryd.results29]
end Go.Proofs.YtgbcfpcjljhijaaDoor
set_option maxRecDepth 100000
namespace Go.Proofs.YtgbcfpcjljhijaaDoor
open Go.Vai Go Go.Proofs
open Nat (reduceEqDiff reduceMul reduceAdd reduceDiv reduceLeDiff)
open Int (reduceToNat reduceNe reduceEq reduceLT reduceLE)
theorem liftB_size {B : Int} {h : Nat} {u t : Tot} (hu : TotB 1000000000000 u) (ht : TotB B t) : (liftB h u t).size ≤ 3000 := by
  have h1 := codeF_size hu
  have h2 := codeF_size ht
  have hz : z1.size = 1 := rfl
  unfold liftB; split <;> (unfold nodeB; rw [ByteArray.size_append, ByteArray.size_append]; omega)
theorem walkH_size : ∀ (p : List Tot) (h : Nat) (t : Tot) (B : Int), (∀ u ∈ p, TotB 1000000000000 u) → TotB B t → 0 ≤ B → ∀ x ∈ walkH h p t, x.size ≤ 3000
  | [], _, _, _, _, _, _, _, hx => by cases hx
  | u :: p, h, t, B, hp, ht, hB, x, hx => by
    rw [walkH] at hx
    rcases List.mem_cons.1 hx with e | e
    · rw [e]; exact liftB_size (hp u (by simp)) ht
    · exact walkH_size p (h / 2) (liftT h u t) (B + 1000000000000) (fun v hv => hp v (by simp [hv])) (step_ok (hp u (by simp)) ht hB) (by omega) x e
theorem walkH_length : ∀ (p : List Tot) (h : Nat) (t : Tot), (walkH h p t).length = p.length
  | [], _, _ => rfl
  | u :: p, h, t => by rw [walkH, List.length_cons, walkH_length p, List.length_cons]
theorem hashed_len {a : Acc} (ha : accOK a = true) : (hashedF a).length ≤ 9 := by
  have hp := (accOK_iff ha).2.2.2.2.1
  unfold hashedF; rw [if_pos ha, List.length_append, walkH_length, hp]; simp [leafH]
theorem hashed_size {a : Acc} (ha : accOK a = true) : ∀ x ∈ hashedF a, x.size ≤ 20000 := fun x hx => by
  obtain ⟨_, ⟨h2, h3⟩, _, h5, _, h7⟩ := accOK_iff ha
  unfold hashedF at hx
  rw [if_pos ha] at hx
  have hz1 : z1.size = 1 := rfl
  have hz0 : z0.size = 1 := rfl
  rcases List.mem_append.1 hx with e | e
  · have hc := contF_size h3 h2
    have hl := leafF_size (contF a.l)
    have hn := nodeF_size a.s (leafF (contF a.l))
    have hs := numS_size (sumsF a.l)
    have h8 := sumsF_len a.l
    simp only [leafH, List.mem_cons, List.not_mem_nil, or_false] at e
    rcases e with e | e | e <;> subst e
    · rw [ByteArray.size_append]; omega
    · rw [ByteArray.size_append, ByteArray.size_append]; omega
    · rw [ByteArray.size_append, ByteArray.size_append]; omega
  · have := walkH_size a.p a.h.toNat (leafT a.s a.l) 120000000000 h7 (leafT_ok _ _ h3 h2) (by decide) x e
    omega
theorem bent_law {s : Tot} {a b : Acc} (ha : checkF s a = true) (hb : checkF s b = true) (hh : a.h = b.h) (hn : ¬ (a.s = b.s ∧ a.l = b.l ∧ a.p = b.p)) : collF (hashedF a) (hashedF b) = true := by
  rcases check_free ha hb hh with h | ⟨h1, h2, h3⟩
  · exact collF_iff.2 h
  · exact (hn ⟨h2, h1, h3⟩).elim
theorem check_acc {s : Tot} {a : Acc} (h : checkF s a = true) : accOK a = true := by
  simp only [checkF, Bool.and_eq_true] at h; exact h.1
theorem bentF_small {a : Acc} (how x y : Int) (hl : a.l.length ≤ 60) (hp : a.p.length = 6) (ht : ∀ t ∈ a.p, t.1.length = 8) : (bentF a how x y).l.length ≤ 100 ∧ (bentF a how x y).p.length ≤ 6 ∧ ∀ t ∈ (bentF a how x y).p, t.1.length = 8 := by
  have hy := pickF_in (c := y) (n := 6) (by omega)
  have hg := ht _ (gd_mem a.p (pickF y 6).toNat (by omega))
  unfold bentF
  split
  · split
    · exact ⟨by simp; omega, by show a.p.length ≤ _; omega, ht⟩
    · exact ⟨by simp, by show a.p.length ≤ _; omega, ht⟩
  split
  · exact ⟨by show a.l.length ≤ _; omega, by show a.p.length ≤ _; omega, ht⟩
  split
  · exact ⟨by show a.l.length ≤ _; omega, by show a.p.length ≤ _; omega, ht⟩
  split
  · refine ⟨by show a.l.length ≤ _; omega, by simp; omega, fun t h => ?_⟩
    rcases List.mem_or_eq_of_mem_set h with h1 | h1
    · exact ht t h1
    · rw [h1]; simpa using hg
  split
  · refine ⟨by show a.l.length ≤ _; omega, by simp; omega, fun t h => ?_⟩
    rcases List.mem_or_eq_of_mem_set h with h1 | h1
    · exact ht t h1
    · rw [h1]; simpa using hg
  split
  · exact ⟨by show a.l.length ≤ _; omega, by simp; omega, fun t h => ht t (List.mem_of_mem_take h)⟩
  split
  · exact ⟨by simp; omega, by show a.p.length ≤ _; omega, ht⟩
  · exact ⟨by show a.l.length ≤ _; omega, by show a.p.length ≤ _; omega, ht⟩
theorem dn_SLs (l : List ByteArray) : (SLs l).dn = false := dnL_map l Str fun _ => rfl
instance : Inhabited Acc := ⟨⟨0, [], ⟨#[]⟩, []⟩⟩
theorem sums_R64 {l : List Ch} (hl : ∀ c ∈ l, c.good) (hn : l.length ≤ 60) : ∀ n ∈ sumsF l, R64 n := fun n hn' => by
  obtain ⟨i, hi, rfl⟩ := List.mem_iff_getElem.1 hn'
  have h8 := sumsF_len l
  have e := sumsF_gd hl (j := i) (by omega)
  rw [gd_get _ i hi] at e
  have := sumJ_le hl i
  rw [e]; unfold R64; omega
theorem ckS_ev (K : ByteArray) {l : List Ch} (hg : ∀ c ∈ l, c.good) (hn : l.length ≤ 60) (a : Acc) (h1 : a.l.length ≤ 100) (h2 : a.p.length ≤ 100) : Ev Tryd.prog 30 [RP (sealT K l), AP a] (B (checkF (sealT K l) a)) := by
  have h8 := row_len8 K hg hn (k := 6) (i := 0) (by omega) (by decide)
  have hs : (sealT K l).1 = sumsF l := seal_sums K hg hn
  exact check_ev (sealT K l) a (by omega) (by omega) (by rw [hs, sumsF_len]; omega) (by rw [hs]; exact sums_R64 hg hn) (by have : (sealT K l).2.size = 32 := h8.2; omega)
theorem collA_ev {a b : Acc} (ha : accOK a = true) (hb : accOK b = true) : Ev Tryd.prog 33 [SLs (hashedF a), SLs (hashedF b)] (B (collF (hashedF a) (hashedF b))) :=
  collided_ev _ _ (by have := hashed_len ha; omega) (by have := hashed_len hb; omega) (fun x hx => by have := hashed_size ha x hx; omega) (fun x hx => by have := hashed_size hb x hx; omega)
theorem hashedA_ev {a : Acc} (hl : a.l.length ≤ 100) (hp : a.p.length ≤ 100) (ht : ∀ t ∈ a.p, t.1.length = 8) : Ev Tryd.prog 34 [AP a] (SLs (hashedF a)) :=
  hashed_ev a (by omega) (by omega) (fun t h => by have := ht t h; omega)
theorem bentA_ev {a : Acc} (ha : accOK a = true) (how x y : Int) (hh : R64 how) (hx : R64 x) (hy : R64 y) :
    Ev Tryd.prog 29 [AP a, I how, I x, I y] (.tup [AP (bentF a how x y), B (!decide (a.h = (bentF a how x y).h ∧ a.s = (bentF a how x y).s ∧ a.l = (bentF a how x y).l ∧ a.p = (bentF a how x y).p))]) := by
  obtain ⟨_, ⟨h2, h3⟩, _, h5, h6, h7⟩ := accOK_iff ha
  refine bent_ev a how x y hh hx hy (by omega) (fun c hc => ?_) (by omega) h6 h7
  obtain ⟨_, _, _, _, _, _, _, _, h9⟩ := h3 c hc
  omega
section
variable (p : Nat → Bool) (l : List Acc)
@[go_sem] theorem namesL_AP : AV.namesL p (l.map AP) = false := namesL_map p l AP fun _ => rfl
@[go_sem] theorem allOK_AP : allOK 4 (l.map AP) = true := allOK_map 4 l AP fun _ => ⟨rfl, rfl⟩
end
end Go.Proofs.YtgbcfpcjljhijaaDoor
set_option maxRecDepth 100000
namespace Go.Proofs.YtgbcfpcjljhijaaDoor
open Go.Vai Go Go.Proofs
open Nat (reduceEqDiff reduceMul reduceAdd reduceDiv reduceLeDiff)
open Int (reduceToNat reduceNe reduceEq reduceLT reduceLE)
theorem check_ne {s t : Tot} {a : Acc} (h : checkF s a = true) (hn : t ≠ s) : checkF t a = false := by
  cases e : checkF t a with
  | false => rfl
  | true =>
    simp only [checkF, Bool.and_eq_true, decide_eq_true_eq] at h e
    exact (hn (e.2.symm.trans h.2)).elim
theorem semC_norm {S : Sp} (hY : YMono S) {c : Code} {Q : Exit → Env → Store → Prop} {E : Env} {σ : Store} (J : Env → Store → Prop) (h : semC S c (normQ J) E σ) (h2 : ∀ E σ, J E σ → Q .normal E σ) : semC S c Q E σ := fun C H n R hR a w hw => h C H n R (fun e E σ a w hq hst => hR e E σ a w (normQ_h h2 e E σ hq) hst) a w hw
set_option maxHeartbeats 4000000 in
theorem binds_ev (key : Int) (x : List Fiv) (cu how z w : Int) (hk : R64 key) (hx : x.length ≤ 9223372036854775807) (hr : ∀ y ∈ x, y.r) (hcu : R64 cu) (hhow : R64 how) (hz : R64 z) (hw : R64 w) :
    Ev Tryd.prog 8 [I key, FL x, I cu, I how, I z, I w] (B true) := by
  have hm := made_ev key x hk hx hr
  have hok := made_ok key x
  have hg := madeF_good x
  have hl10 := madeF_len x
  have hks := madeK_size key
  generalize madeK key = K at *
  generalize madeF x = l at *
  have hll : l.length ≤ 9223372036854775807 := by omega
  have k1 := sealOK_ev K l hll hok
  have hpk := pick_ev cu 8 hcu (by omega)
  have hpb := pickF_in (c := cu) (n := 8) (by omega)
  obtain ⟨h, hh⟩ : ∃ h : Nat, pickF cu 8 = h := ⟨(pickF cu 8).toNat, by omega⟩
  rw [hh] at hpk
  have hw8 := pick_ev w 8 hw (by omega)
  have hwb := pickF_in (c := w) (n := 8) (by omega)
  have hz5 := pick_ev z 5 hz (by omega)
  have hzb := pickF_in (c := z) (n := 5) (by omega)
  generalize pickF z 5 = z5 at *
  obtain ⟨q, hq⟩ : ∃ q : Nat, pickF w 8 = q := ⟨(pickF w 8).toNat, by omega⟩
  rw [hq] at hw8
  have h63 : h < 64 := by omega
  have a1 := accOK_ev K l h hll hok h63
  have o1 := own_ok K hg (by omega) h h63
  have c1 := own_check K hg (by omega) h h63
  have ck := fun a => ckS_ev K hg (show l.length ≤ 60 by omega) a
  have h8 := row_len8 K hg (show l.length ≤ 60 by omega) (k := 6) (i := 0) (by omega) (by decide)
  have hs : (sealT K l).1 = sumsF l := seal_sums K hg (by omega)
  have hs8 : (sealT K l).1.length = 8 := by rw [hs]; exact sumsF_len l
  have hsd : (sealT K l).2.size = 32 := h8.2
  have hsb : ∀ n ∈ (sealT K l).1, -1000000000000 ≤ n ∧ n ≤ 1000000000000 := fun n hn => by
    rw [hs] at hn
    obtain ⟨j, hj, rfl⟩ := List.mem_iff_getElem.1 hn
    have e := sumsF_gd hg (j := j) (by have := sumsF_len l; omega)
    rw [gd_get _ j hj] at e
    have := sumJ_le hg j
    omega
  have w1 : (ownA K l h).l = ofF l h := rfl
  have w2 : (ownA K l h).h = h := rfl
  generalize hS : sealT K l = S at *
  generalize ownA K l h = a at *
  have b1 := bentA_ev o1 how z w hhow hz hw
  obtain ⟨oa1, ⟨oa2, oa3⟩, oa4, oa5, oa6, oa7⟩ := accOK_iff o1
  have bs := bentF_small how z w oa2 oa6 (fun t ht => (oa7 t ht).1)
  generalize bentF a how z w = b at *
  have c1e := ck a (by omega) (by omega)
  rw [c1] at c1e
  obtain ⟨ah, al, as', ap⟩ := a
  obtain ⟨S1, S2⟩ := S
  simp only at w1 w2 oa2 oa6 oa7 hs hs8 hsd hsb
  subst w1 w2
  have h8t : S1.take 8 = S1 := List.take_of_length_le (by omega)
  have ckG : ∀ t : Tot, t.1.length = 8 → (∀ n ∈ t.1, -2000000000000 ≤ n ∧ n ≤ 2000000000000) → t.2.size = 32 → t ≠ (S1, S2) → Ev Tryd.prog 30 [RP t, AP ⟨(h : Int), ofF l h, as', ap⟩] (B false) := fun t h1 h2 h3 h4 => by
    have := check_ev t ⟨h, ofF l h, as', ap⟩ (by show (ofF l h).length ≤ _; have := ofF_len l h; omega) (by show ap.length ≤ _; omega) (by omega) (fun n hn => by have := h2 n hn; unfold R64; omega) (by omega)
    rwa [check_ne c1 h4] at this
  refine ev_ofB [6, 10, 12] Tryd.func8 rfl (by kernel_rfl) mo (Nat.le_of_ble_eq_true rfl) ?_
  simp -implicitDefEqProofs (disch := omega) only [go_sem, Tryd.ntmps8]
  refine callC_at sane_ev ?_
  simp -implicitDefEqProofs (disch := omega) only [go_sem]
  refine callC_at hm ?_
  simp -implicitDefEqProofs (disch := omega) only [go_sem]
  refine callC_at k1 ?_
  simp -implicitDefEqProofs (disch := omega) only [go_sem]
  refine region_J (Plain.mono) (fun D E σ => E 2 = I cu ∧ E 3 = I how ∧ E 4 = I z ∧ E 5 = I w ∧ E 13 = B true ∧ E 14 = .ptr 18874592 2 0 0 ∧ E 15 = .ptr 18874608 2 0 0 ∧ E 16 = I 0 ∧ σ 18874592 = some ⟨26, 2, [LP K l]⟩ ∧ σ 18874608 = some ⟨35, 2, [RP (S1, S2)]⟩ ∧ (D 8 = true → D 7 = true) ∧ (D 7 = true → D 8 = false → σ 18874640 = some ⟨51, 4, [.agg [I 0, .v (.slice none 0 0), Str ByteArray.empty, .v (.slice none 0 0)]]⟩) ∧ (D 8 = true → σ 18874640 = some ⟨51, 4, [AP ⟨(h : Int), ofF l h, as', ap⟩]⟩) ∧ (D 0 = true → E 35 = LP K l) ∧ (D 1 = true → E 36 = I cu) ∧ (D 2 = true → E 37 = I h) ∧ (D 3 = true → E 38 = .tup [AP ⟨(h : Int), ofF l h, as', ap⟩, I 0]) ∧ (D 4 = true → E 34 = .tup [AP ⟨(h : Int), ofF l h, as', ap⟩, I 0]) ∧ (D 5 = true → E 39 = AP ⟨(h : Int), ofF l h, as', ap⟩) ∧ (D 6 = true → E 40 = I 0) ∧ (D 7 = true → E 17 = .ptr 18874640 4 0 0) ∧ (D 9 = true → E 18 = I 0)) ?_ ?_ ?_
  · simp -implicitDefEqProofs (disch := omega) only [go_sem]
    simp
  · simp only [stepsJ, and_true]
    refine ⟨?_, ?_, ?_, ?_, ?_, ?_, ?_, ?_, ?_, ?_⟩
    · rintro D hD hd E σ ⟨e2, e3, e4, e5, e13, e14, e15, e16, s14, s15, c8_7, m0_0, m0_1, j0, j1, j2, j3, j4, j5, j6, j7, j9⟩
      have hD : D 0 = false := hD
      simp -implicitDefEqProofs (disch := omega) only [go_sem, e2, e3, e4, e5, e13, e14, e15, e16, s14, s15]
      repeat' apply And.intro
      all_goals first | assumption | (intro _; assumption) | trivial | (simp -implicitDefEqProofs (contextual := true) (disch := first | assumption | omega) only [go_sem, m0_1, j0, j1, j2, j3, j4, j5, j6, j7, j9, m0_0, implies_true, forall_const, false_implies, true_implies]; done) | (intros; contradiction) | trace_state
    · rintro D hD hd E σ ⟨e2, e3, e4, e5, e13, e14, e15, e16, s14, s15, c8_7, m0_0, m0_1, j0, j1, j2, j3, j4, j5, j6, j7, j9⟩
      have hD : D 1 = false := hD
      simp -implicitDefEqProofs (disch := omega) only [go_sem, e2, e3, e4, e5, e13, e14, e15, e16, s14, s15]
      repeat' apply And.intro
      all_goals first | assumption | (intro _; assumption) | trivial | (simp -implicitDefEqProofs (contextual := true) (disch := first | assumption | omega) only [go_sem, m0_1, j0, j1, j2, j3, j4, j5, j6, j7, j9, m0_0, implies_true, forall_const, false_implies, true_implies]; done) | (intros; contradiction) | trace_state
    · rintro D hD hd E σ ⟨e2, e3, e4, e5, e13, e14, e15, e16, s14, s15, c8_7, m0_0, m0_1, j0, j1, j2, j3, j4, j5, j6, j7, j9⟩
      have hD : D 2 = false := hD
      have d1 : D 1 = true := hd ⟨1, .data⟩ (by simp) rfl
      have q1 := j1 d1
      simp -implicitDefEqProofs (disch := omega) only [go_sem, e2, e3, e4, e5, e13, e14, e15, e16, s14, s15, q1]
      refine callC_at hpk ?_
      simp -implicitDefEqProofs (disch := omega) only [go_sem, e2, e3, e4, e5, e13, e14, e15, e16, s14, s15, q1]
      repeat' apply And.intro
      all_goals first | assumption | (intro _; assumption) | trivial | (simp -implicitDefEqProofs (contextual := true) (disch := first | assumption | omega) only [go_sem, m0_1, j0, j1, j2, j3, j4, j5, j6, j7, j9, m0_0, implies_true, forall_const, false_implies, true_implies]; done) | (intros; contradiction) | trace_state
    · rintro D hD hd E σ ⟨e2, e3, e4, e5, e13, e14, e15, e16, s14, s15, c8_7, m0_0, m0_1, j0, j1, j2, j3, j4, j5, j6, j7, j9⟩
      have hD : D 3 = false := hD
      have d0 : D 0 = true := hd ⟨0, .data⟩ (by simp) rfl
      have q0 := j0 d0
      have d2 : D 2 = true := hd ⟨2, .data⟩ (by simp) rfl
      have q2 := j2 d2
      simp -implicitDefEqProofs (disch := omega) only [go_sem, e2, e3, e4, e5, e13, e14, e15, e16, s14, s15, q0, q2]
      refine callC_at a1 ?_
      simp -implicitDefEqProofs (disch := omega) only [go_sem, e2, e3, e4, e5, e13, e14, e15, e16, s14, s15, q0, q2]
      repeat' apply And.intro
      all_goals first | assumption | (intro _; assumption) | trivial | (simp -implicitDefEqProofs (contextual := true) (disch := first | assumption | omega) only [go_sem, m0_1, j0, j1, j2, j3, j4, j5, j6, j7, j9, m0_0, implies_true, forall_const, false_implies, true_implies]; done) | (intros; contradiction) | trace_state
    · rintro D hD hd E σ ⟨e2, e3, e4, e5, e13, e14, e15, e16, s14, s15, c8_7, m0_0, m0_1, j0, j1, j2, j3, j4, j5, j6, j7, j9⟩
      have hD : D 4 = false := hD
      have d3 : D 3 = true := hd ⟨3, .data⟩ (by simp) rfl
      have q3 := j3 d3
      simp -implicitDefEqProofs (disch := omega) only [go_sem, e2, e3, e4, e5, e13, e14, e15, e16, s14, s15, q3]
      repeat' apply And.intro
      all_goals first | assumption | (intro _; assumption) | trivial | (simp -implicitDefEqProofs (contextual := true) (disch := first | assumption | omega) only [go_sem, m0_1, j0, j1, j2, j3, j4, j5, j6, j7, j9, m0_0, implies_true, forall_const, false_implies, true_implies]; done) | (intros; contradiction) | trace_state
    · rintro D hD hd E σ ⟨e2, e3, e4, e5, e13, e14, e15, e16, s14, s15, c8_7, m0_0, m0_1, j0, j1, j2, j3, j4, j5, j6, j7, j9⟩
      have hD : D 5 = false := hD
      have d4 : D 4 = true := hd ⟨4, .data⟩ (by simp) rfl
      have q4 := j4 d4
      simp -implicitDefEqProofs (disch := omega) only [go_sem, e2, e3, e4, e5, e13, e14, e15, e16, s14, s15, q4]
      repeat' apply And.intro
      all_goals first | assumption | (intro _; assumption) | trivial | (simp -implicitDefEqProofs (contextual := true) (disch := first | assumption | omega) only [go_sem, m0_1, j0, j1, j2, j3, j4, j5, j6, j7, j9, m0_0, implies_true, forall_const, false_implies, true_implies]; done) | (intros; contradiction) | trace_state
    · rintro D hD hd E σ ⟨e2, e3, e4, e5, e13, e14, e15, e16, s14, s15, c8_7, m0_0, m0_1, j0, j1, j2, j3, j4, j5, j6, j7, j9⟩
      have hD : D 6 = false := hD
      have d4 : D 4 = true := hd ⟨4, .data⟩ (by simp) rfl
      have q4 := j4 d4
      simp -implicitDefEqProofs (disch := omega) only [go_sem, e2, e3, e4, e5, e13, e14, e15, e16, s14, s15, q4]
      repeat' apply And.intro
      all_goals first | assumption | (intro _; assumption) | trivial | (simp -implicitDefEqProofs (contextual := true) (disch := first | assumption | omega) only [go_sem, m0_1, j0, j1, j2, j3, j4, j5, j6, j7, j9, m0_0, implies_true, forall_const, false_implies, true_implies]; done) | (intros; contradiction) | trace_state
    · rintro D hD hd E σ ⟨e2, e3, e4, e5, e13, e14, e15, e16, s14, s15, c8_7, m0_0, m0_1, j0, j1, j2, j3, j4, j5, j6, j7, j9⟩
      have hD : D 7 = false := hD
      simp -implicitDefEqProofs (disch := omega) only [go_sem, e2, e3, e4, e5, e13, e14, e15, e16, s14, s15]
      repeat' apply And.intro
      all_goals first | assumption | (intro _; assumption) | trivial | (intro h; intros; have hh := (c8_7 h); rw [hD] at hh; cases hh; done) | (simp -implicitDefEqProofs (contextual := true) (disch := first | assumption | omega) only [go_sem, m0_1, j0, j1, j2, j3, j4, j5, j6, j7, j9, m0_0, implies_true, forall_const, false_implies, true_implies]; done) | (intros; contradiction) | trace_state
    · rintro D hD hd E σ ⟨e2, e3, e4, e5, e13, e14, e15, e16, s14, s15, c8_7, m0_0, m0_1, j0, j1, j2, j3, j4, j5, j6, j7, j9⟩
      have hD : D 8 = false := hD
      have d5 : D 5 = true := hd ⟨5, .data⟩ (by simp) rfl
      have q5 := j5 d5
      have d7 : D 7 = true := hd ⟨7, .data⟩ (by simp) rfl
      have q7 := j7 d7
      have g0 := m0_0 d7 hD
      simp -implicitDefEqProofs (disch := omega) only [go_sem, e2, e3, e4, e5, e13, e14, e15, e16, s14, s15, q5, q7, g0]
      repeat' apply And.intro
      all_goals first | assumption | (intro _; assumption) | trivial | (simp -implicitDefEqProofs (contextual := true) (disch := first | assumption | omega) only [go_sem, m0_1, j0, j1, j2, j3, j4, j5, j6, j7, j9, m0_0, implies_true, forall_const, false_implies, true_implies]; done) | (intros; contradiction) | trace_state
    · rintro D hD hd E σ ⟨e2, e3, e4, e5, e13, e14, e15, e16, s14, s15, c8_7, m0_0, m0_1, j0, j1, j2, j3, j4, j5, j6, j7, j9⟩
      have hD : D 9 = false := hD
      have d6 : D 6 = true := hd ⟨6, .data⟩ (by simp) rfl
      have q6 := j6 d6
      simp -implicitDefEqProofs (disch := omega) only [go_sem, e2, e3, e4, e5, e13, e14, e15, e16, s14, s15, q6]
      repeat' apply And.intro
      all_goals first | assumption | (intro _; assumption) | trivial | (simp -implicitDefEqProofs (contextual := true) (disch := first | assumption | omega) only [go_sem, m0_1, j0, j1, j2, j3, j4, j5, j6, j7, j9, m0_0, implies_true, forall_const, false_implies, true_implies]; done) | (intros; contradiction) | trace_state
  · rintro D E σ hD ⟨e2, e3, e4, e5, e13, e14, e15, e16, s14, s15, c8_7, m0_0, m0_1, j0, j1, j2, j3, j4, j5, j6, j7, j9⟩
    have g0 := m0_1 (hD 8 (by decide))
    have q0 := j0 (hD 0 (by decide))
    have q1 := j1 (hD 1 (by decide))
    have q2 := j2 (hD 2 (by decide))
    have q3 := j3 (hD 3 (by decide))
    have q4 := j4 (hD 4 (by decide))
    have q5 := j5 (hD 5 (by decide))
    have q6 := j6 (hD 6 (by decide))
    have q7 := j7 (hD 7 (by decide))
    have q9 := j9 (hD 9 (by decide))
    clear c8_7 m0_0 m0_1 j0 j1 j2 j3 j4 j5 j6 j7 j9 hD
    simp -implicitDefEqProofs (disch := omega) only [go_sem, e2, e3, e4, e5, e13, e14, e15, e16, s14, s15, g0, q7, q9, hs8]
    refine branch_r (by omega) ?_
    simp -implicitDefEqProofs (disch := omega) only [go_sem, e2, e3, e4, e5, e13, e14, e15, e16, s14, s15, g0, q7, q9, hs8]
    generalize hchg : (!decide ((h : Int) = b.h ∧ as' = b.s ∧ ofF l h = b.l ∧ ap = b.p)) = chg at *
    refine callC_at b1 ?_
    simp -implicitDefEqProofs (disch := omega) only [go_sem, e2, e3, e4, e5, e13, e14, e15, e16, s14, s15, g0, q7, q9]
    refine semC_norm Plain.mono (fun E σ => E 4 = I z ∧ E 5 = I w ∧ E 13 = B true ∧ E 15 = .ptr 18874608 2 0 0 ∧ E 17 = .ptr 18874640 4 0 0 ∧ σ 18874608 = some ⟨35, 2, [RP (S1, S2)]⟩ ∧ σ 18874640 = some ⟨51, 4, [AP ⟨(h : Int), ofF l h, as', ap⟩]⟩ ∧ E 81 = B false) ?_ ?_
    · refine reg_mk Plain.mono ?_
      cases chg with
      | false => simp -implicitDefEqProofs (disch := omega) only [go_sem, e2, e3, e4, e5, e13, e14, e15, e16, s14, s15, g0, q7, q9, and_self]
      | true =>
        have ce := ck b (by omega) (by omega)
        cases hck : checkF (S1, S2) b with
        | false =>
          rw [hck] at ce
          simp -implicitDefEqProofs (disch := omega) only [go_sem, e2, e3, e4, e5, e13, e14, e15, e16, s14, s15, g0, q7, q9]
          refine callC_at ce ?_
          simp -implicitDefEqProofs (disch := omega) only [go_sem, e2, e3, e4, e5, e13, e14, e15, e16, s14, s15, g0, q7, q9, and_self]
        | true =>
          rw [hck] at ce
          simp -implicitDefEqProofs (disch := omega) only [go_sem, e2, e3, e4, e5, e13, e14, e15, e16, s14, s15, g0, q7, q9]
          refine callC_at ce ?_
          simp -implicitDefEqProofs (disch := omega) only [go_sem, e2, e3, e4, e5, e13, e14, e15, e16, s14, s15, g0, q7, q9]
          refine branch_mk (fun hb => ?_) (fun hb => ?_)
          · have hb' : (h : Int) = b.h := by omega
            have hco : collF (hashedF ⟨(h : Int), ofF l h, as', ap⟩) (hashedF b) = true := bent_law c1 hck hb' (fun hh => by
              have : (!decide ((h : Int) = b.h ∧ as' = b.s ∧ ofF l h = b.l ∧ ap = b.p)) = false := by rw [decide_eq_true ⟨hb', hh⟩]; rfl
              rw [this] at hchg; cases hchg)
            have cc := collA_ev o1 (check_acc hck)
            rw [hco] at cc
            have h1 := hashedA_ev (a := ⟨(h : Int), ofF l h, as', ap⟩) (by show (ofF l h).length ≤ _; have := ofF_len l h; omega) (by show ap.length ≤ _; omega) (fun t ht => (oa7 t ht).1)
            have h2 := hashedA_ev (a := b) (by omega) (by omega) bs.2.2
            simp -implicitDefEqProofs (disch := omega) only [go_sem, e2, e3, e4, e5, e13, e14, e15, e16, s14, s15, g0, q7, q9]
            refine callC_at h1 ?_ (h4 := .inr (dn_SLs _))
            simp -implicitDefEqProofs (disch := omega) only [go_sem, e2, e3, e4, e5, e13, e14, e15, e16, s14, s15, g0, q7, q9]
            refine callC_at h2 ?_ (h4 := .inr (dn_SLs _))
            simp -implicitDefEqProofs (disch := omega) only [go_sem, e2, e3, e4, e5, e13, e14, e15, e16, s14, s15, g0, q7, q9]
            refine callC_at cc ?_
            simp -implicitDefEqProofs (disch := omega) only [go_sem, e2, e3, e4, e5, e13, e14, e15, e16, s14, s15, g0, q7, q9, and_self]
          · simp -implicitDefEqProofs (disch := omega) only [go_sem, e2, e3, e4, e5, e13, e14, e15, e16, s14, s15, g0, q7, q9, and_self]
    clear e2 e3 e4 e5 e13 e14 e15 e16 s14 s15 g0 q0 q1 q2 q3 q4 q5 q6 q7 q9 E σ
    rintro E σ ⟨e4, e5, e13, e15, e17, s15, s17, e81⟩
    simp -implicitDefEqProofs (disch := omega) only [go_sem, e4, e5, e13, e15, e17, s15, s17, e81]
    refine region_J (Plain.mono) (fun D E σ => E 4 = I z ∧ E 5 = I w ∧ E 13 = B true ∧ E 15 = .ptr 18874608 2 0 0 ∧ E 17 = .ptr 18874640 4 0 0 ∧ σ 18874608 = some ⟨35, 2, [RP (S1, S2)]⟩ ∧ σ 18874640 = some ⟨51, 4, [AP ⟨(h : Int), ofF l h, as', ap⟩]⟩ ∧ (D 8 = true → D 6 = true) ∧ (D 6 = true → D 3 = true) ∧ (D 3 = true → D 0 = true) ∧ (D 8 = true → D 7 = true) ∧ (D 0 = true → D 3 = false → σ 18875680 = some ⟨3, 1, []⟩) ∧ (D 0 = true → D 3 = false → E 82 = .own 18875680 1 0 0) ∧ (D 3 = true → σ 18875680 = some ⟨3, 1, S1.map I⟩) ∧ (D 3 = true → E 85 = .own 18875680 1 0 8) ∧ (D 7 = true → D 8 = false → σ 18874704 = some ⟨35, 2, [.agg [.v (.slice none 0 0), Str ByteArray.empty]]⟩) ∧ (D 8 = true → σ 18874704 = some ⟨35, 2, [.agg [.own 18875680 1 0 8, Str S2]]⟩) ∧ (D 1 = true → E 83 = .ptr 18874608 2 0 0) ∧ (D 2 = true → E 84 = SL S1) ∧ (D 4 = true → E 86 = .ptr 18874608 2 0 1) ∧ (D 5 = true → E 87 = Str S2) ∧ (D 6 = true → E 88 = .agg [.own 18875680 1 0 8, Str S2]) ∧ (D 7 = true → E 21 = .ptr 18874704 2 0 0)) ?_ ?_ ?_
    · simp -implicitDefEqProofs (disch := omega) only [go_sem, hs8, h8t]
      simp [e4, e5, e13, e15, e17, s15, s17]
    · simp only [stepsJ, and_true]
      refine ⟨?_, ?_, ?_, ?_, ?_, ?_, ?_, ?_, ?_⟩
      · rintro D hD hd E σ ⟨e4, e5, e13, e15, e17, s15, s17, c8_6, c6_3, c3_0, c8_7, m0_0, n0_0, m0_1, n0_1, m1_0, m1_1, j1, j2, j4, j5, j6, j7⟩
        have hD : D 0 = false := hD
        simp -implicitDefEqProofs (disch := omega) only [go_sem, e4, e5, e13, e15, e17, s15, s17, hs8, h8t]
        repeat' apply And.intro
        all_goals first | assumption | (intro _; assumption) | trivial | (intro h; intros; have hh := (c3_0 h); rw [hD] at hh; cases hh; done) | (intro h; intros; have hh := (c3_0 (c6_3 h)); rw [hD] at hh; cases hh; done) | (intro h; intros; have hh := (c3_0 (c6_3 (c8_6 h))); rw [hD] at hh; cases hh; done) | (simp -implicitDefEqProofs (contextual := true) (disch := first | assumption | omega) only [go_sem, m0_1, n0_1, m1_1, j1, j2, j4, j5, j6, j7, m0_0, n0_0, m1_0, implies_true, forall_const, false_implies, true_implies]; done) | (intros; contradiction) | trace_state
      · rintro D hD hd E σ ⟨e4, e5, e13, e15, e17, s15, s17, c8_6, c6_3, c3_0, c8_7, m0_0, n0_0, m0_1, n0_1, m1_0, m1_1, j1, j2, j4, j5, j6, j7⟩
        have hD : D 1 = false := hD
        simp -implicitDefEqProofs (disch := omega) only [go_sem, e4, e5, e13, e15, e17, s15, s17, hs8, h8t]
        repeat' apply And.intro
        all_goals first | assumption | (intro _; assumption) | trivial | (simp -implicitDefEqProofs (contextual := true) (disch := first | assumption | omega) only [go_sem, m0_1, n0_1, m1_1, j1, j2, j4, j5, j6, j7, m0_0, n0_0, m1_0, implies_true, forall_const, false_implies, true_implies]; done) | (intros; contradiction) | trace_state
      · rintro D hD hd E σ ⟨e4, e5, e13, e15, e17, s15, s17, c8_6, c6_3, c3_0, c8_7, m0_0, n0_0, m0_1, n0_1, m1_0, m1_1, j1, j2, j4, j5, j6, j7⟩
        have hD : D 2 = false := hD
        have d1 : D 1 = true := hd ⟨1, .data⟩ (by simp) rfl
        have q1 := j1 d1
        simp -implicitDefEqProofs (disch := omega) only [go_sem, e4, e5, e13, e15, e17, s15, s17, q1, hs8, h8t]
        repeat' apply And.intro
        all_goals first | assumption | (intro _; assumption) | trivial | (simp -implicitDefEqProofs (contextual := true) (disch := first | assumption | omega) only [go_sem, m0_1, n0_1, m1_1, j1, j2, j4, j5, j6, j7, m0_0, n0_0, m1_0, implies_true, forall_const, false_implies, true_implies]; done) | (intros; contradiction) | trace_state
      · rintro D hD hd E σ ⟨e4, e5, e13, e15, e17, s15, s17, c8_6, c6_3, c3_0, c8_7, m0_0, n0_0, m0_1, n0_1, m1_0, m1_1, j1, j2, j4, j5, j6, j7⟩
        have hD : D 3 = false := hD
        have d0 : D 0 = true := hd ⟨0, .data⟩ (by simp) rfl
        have d2 : D 2 = true := hd ⟨2, .data⟩ (by simp) rfl
        have q2 := j2 d2
        have g0 := m0_0 d0 hD
        have f0 := n0_0 d0 hD
        simp -implicitDefEqProofs (disch := omega) only [go_sem, e4, e5, e13, e15, e17, s15, s17, q2, g0, f0, hs8, h8t]
        repeat' apply And.intro
        all_goals first | assumption | (intro _; assumption) | trivial | (intro h; intros; have hh := (c6_3 h); rw [hD] at hh; cases hh; done) | (intro h; intros; have hh := (c6_3 (c8_6 h)); rw [hD] at hh; cases hh; done) | (simp -implicitDefEqProofs (contextual := true) (disch := first | assumption | omega) only [go_sem, m0_1, n0_1, m1_1, j1, j2, j4, j5, j6, j7, m0_0, n0_0, m1_0, implies_true, forall_const, false_implies, true_implies]; done) | (intros; contradiction) | trace_state
      · rintro D hD hd E σ ⟨e4, e5, e13, e15, e17, s15, s17, c8_6, c6_3, c3_0, c8_7, m0_0, n0_0, m0_1, n0_1, m1_0, m1_1, j1, j2, j4, j5, j6, j7⟩
        have hD : D 4 = false := hD
        simp -implicitDefEqProofs (disch := omega) only [go_sem, e4, e5, e13, e15, e17, s15, s17, hs8, h8t]
        repeat' apply And.intro
        all_goals first | assumption | (intro _; assumption) | trivial | (simp -implicitDefEqProofs (contextual := true) (disch := first | assumption | omega) only [go_sem, m0_1, n0_1, m1_1, j1, j2, j4, j5, j6, j7, m0_0, n0_0, m1_0, implies_true, forall_const, false_implies, true_implies]; done) | (intros; contradiction) | trace_state
      · rintro D hD hd E σ ⟨e4, e5, e13, e15, e17, s15, s17, c8_6, c6_3, c3_0, c8_7, m0_0, n0_0, m0_1, n0_1, m1_0, m1_1, j1, j2, j4, j5, j6, j7⟩
        have hD : D 5 = false := hD
        have d4 : D 4 = true := hd ⟨4, .data⟩ (by simp) rfl
        have q4 := j4 d4
        simp -implicitDefEqProofs (disch := omega) only [go_sem, e4, e5, e13, e15, e17, s15, s17, q4, hs8, h8t]
        repeat' apply And.intro
        all_goals first | assumption | (intro _; assumption) | trivial | (simp -implicitDefEqProofs (contextual := true) (disch := first | assumption | omega) only [go_sem, m0_1, n0_1, m1_1, j1, j2, j4, j5, j6, j7, m0_0, n0_0, m1_0, implies_true, forall_const, false_implies, true_implies]; done) | (intros; contradiction) | trace_state
      · rintro D hD hd E σ ⟨e4, e5, e13, e15, e17, s15, s17, c8_6, c6_3, c3_0, c8_7, m0_0, n0_0, m0_1, n0_1, m1_0, m1_1, j1, j2, j4, j5, j6, j7⟩
        have hD : D 6 = false := hD
        have d3 : D 3 = true := hd ⟨3, .data⟩ (by simp) rfl
        have d5 : D 5 = true := hd ⟨5, .data⟩ (by simp) rfl
        have q5 := j5 d5
        have g0 := m0_1 d3
        have f0 := n0_1 d3
        simp -implicitDefEqProofs (disch := omega) only [go_sem, e4, e5, e13, e15, e17, s15, s17, q5, g0, f0, hs8, h8t]
        repeat' apply And.intro
        all_goals first | assumption | (intro _; assumption) | trivial | (intro h; intros; have hh := (c8_6 h); rw [hD] at hh; cases hh; done) | (intro _ h; rw [d3] at h; cases h; done) | (intro h; rw [d3] at h; cases h; done) | (simp -implicitDefEqProofs (contextual := true) (disch := first | assumption | omega) only [go_sem, m0_1, n0_1, m1_1, j1, j2, j4, j5, j6, j7, m0_0, n0_0, m1_0, implies_true, forall_const, false_implies, true_implies]; done) | (intros; contradiction) | trace_state
      · rintro D hD hd E σ ⟨e4, e5, e13, e15, e17, s15, s17, c8_6, c6_3, c3_0, c8_7, m0_0, n0_0, m0_1, n0_1, m1_0, m1_1, j1, j2, j4, j5, j6, j7⟩
        have hD : D 7 = false := hD
        simp -implicitDefEqProofs (disch := omega) only [go_sem, e4, e5, e13, e15, e17, s15, s17, hs8, h8t]
        repeat' apply And.intro
        all_goals first | assumption | (intro _; assumption) | trivial | (intro h; intros; have hh := (c8_7 h); rw [hD] at hh; cases hh; done) | (simp -implicitDefEqProofs (contextual := true) (disch := first | assumption | omega) only [go_sem, m0_1, n0_1, m1_1, j1, j2, j4, j5, j6, j7, m0_0, n0_0, m1_0, implies_true, forall_const, false_implies, true_implies]; done) | (intros; contradiction) | trace_state
      · rintro D hD hd E σ ⟨e4, e5, e13, e15, e17, s15, s17, c8_6, c6_3, c3_0, c8_7, m0_0, n0_0, m0_1, n0_1, m1_0, m1_1, j1, j2, j4, j5, j6, j7⟩
        have hD : D 8 = false := hD
        have d6 : D 6 = true := hd ⟨6, .data⟩ (by simp) rfl
        have q6 := j6 d6
        have d7 : D 7 = true := hd ⟨7, .data⟩ (by simp) rfl
        have q7 := j7 d7
        have g1 := m1_0 d7 hD
        simp -implicitDefEqProofs (disch := omega) only [go_sem, e4, e5, e13, e15, e17, s15, s17, q6, q7, g1, hs8, h8t]
        repeat' apply And.intro
        all_goals first | assumption | (intro _; assumption) | trivial | (intro _ h; rw [(c6_3 d6)] at h; cases h; done) | (intro h; rw [(c6_3 d6)] at h; cases h; done) | (simp -implicitDefEqProofs (contextual := true) (disch := first | assumption | omega) only [go_sem, m0_1, n0_1, m1_1, j1, j2, j4, j5, j6, j7, m0_0, n0_0, m1_0, implies_true, forall_const, false_implies, true_implies]; done) | (intros; contradiction) | trace_state
    · rintro D E σ hD ⟨e4, e5, e13, e15, e17, s15, s17, c8_6, c6_3, c3_0, c8_7, m0_0, n0_0, m0_1, n0_1, m1_0, m1_1, j1, j2, j4, j5, j6, j7⟩
      have g0 := m0_1 (hD 3 (by decide))
      have f0 := n0_1 (hD 3 (by decide))
      have g1 := m1_1 (hD 8 (by decide))
      have q1 := j1 (hD 1 (by decide))
      have q2 := j2 (hD 2 (by decide))
      have q4 := j4 (hD 4 (by decide))
      have q5 := j5 (hD 5 (by decide))
      have q6 := j6 (hD 6 (by decide))
      have q7 := j7 (hD 7 (by decide))
      clear c8_6 c6_3 c3_0 c8_7 m0_0 n0_0 m0_1 n0_1 m1_0 m1_1 j1 j2 j4 j5 j6 j7 hD
      simp -implicitDefEqProofs (disch := omega) only [go_sem, e4, e5, e13, e15, e17, s15, s17, hs8, g0, g1, q7]
      have hgb := hsb _ (gd_mem S1 q (by omega))
      refine callC_at hw8 ?_
      simp -implicitDefEqProofs (disch := omega) only [go_sem, e4, e5, e13, e15, e17, s15, s17, hs8, g0, g1, q7]
      refine callC_at hz5 ?_
      simp -implicitDefEqProofs (disch := omega) only [go_sem, e4, e5, e13, e15, e17, s15, s17, hs8, g0, g1, q7]
      refine callC_at (sumR_ev S2 (by omega)) ?_
      simp -implicitDefEqProofs (disch := omega) only [go_sem, e4, e5, e13, e15, e17, s15, s17, hs8, g0, g1, q7, str_beq]
      refine branch_mk (fun hd => ?_) (fun hd => ?_)
      · simp -implicitDefEqProofs (disch := omega) only [go_sem, e4, e5, e13, e15, e17, s15, s17, g0, g1, q7, Tryd.results8]
      have hv := ckG (S1.set q (gd S1 q + (1 + z5)), S2) (by simp [hs8]) (fun n hn => by
        rcases List.mem_or_eq_of_mem_set hn with h1 | h1
        · have := hsb n h1; omega
        · omega) hsd (fun e => by
        have e1 := congrArg (fun t : Tot => gd t.1 q) e
        simp only at e1
        rw [gd_set _ _ _ _ (by omega), if_pos rfl] at e1
        omega)
      have hv2 := ckG (S1, shaF S2) hs8 (fun n hn => by have := hsb n hn; omega) (shaF_size _) (fun e => hd (congrArg (fun t : Tot => t.2) e))
      have h8s : (S1.set q (gd S1 q + (1 + z5))).take 8 = S1.set q (gd S1 q + (1 + z5)) := List.take_of_length_le (by simp [hs8])
      simp -implicitDefEqProofs (disch := omega) only [go_sem, e4, e5, e13, e15, e17, s15, s17, hs8, g0, g1, q7, str_beq]
      refine callC_sem rfl ?_
      refine freeze_op [18875680] ?_
      simp -implicitDefEqProofs (disch := omega) only [go_sem, e4, e5, e13, e15, e17, s15, s17, hs8, g0, g1, q7, str_beq, h8s, and_self]
      refine callC_at hv ?_
      simp -implicitDefEqProofs (disch := omega) only [go_sem, e4, e5, e13, e15, e17, s15, s17, hs8, g0, g1, q7, str_beq, h8s, and_self]
      refine callC_at hv2 ?_
      simp -implicitDefEqProofs (disch := omega) only [go_sem, e4, e5, e13, e15, e17, s15, s17, hs8, g0, g1, q7, str_beq, h8s, and_self]
      refine callC_at c1e ?_
      simp -implicitDefEqProofs (disch := omega) only [go_sem, e4, e5, e13, e15, e17, s15, s17, hs8, g0, g1, q7, str_beq, h8s, and_self, Tryd.results8]
end Go.Proofs.YtgbcfpcjljhijaaDoor
set_option maxRecDepth 100000
namespace Go.Proofs.YtgbcfpcjljhijaaDoor
open Go.Vai Go Go.Proofs
open Nat (reduceEqDiff reduceMul reduceAdd reduceDiv reduceLeDiff)
open Int (reduceToNat reduceNe reduceEq reduceLT reduceLE)
theorem auditBinds_lifted (os : Os) (started : os.Started) (H : Type) (enc : TypeId × Value → H) :
    ReturnsInHanded {} Tryd.checked os 8 .any (fun w args => (Rows.auditBindsSpec.pre enc Tryd.prog Tryd.f8 [] false w args ∧ laidMetH Tryd.prog laid3 w) ∧ sizedMet enc Tryd.prog Tryd.f8 (OpenSpec.ofChange Rows.auditBindsSpec) false w args)
      (Rows.auditBindsSpec.post enc Tryd.prog Tryd.f8 false true false false) :=
  liftedG (C := Tryd.checked) (tb := 4) (ps := [OI, OFL, OI, OI, OI, OI]) (X := fun w _ => laidMetH Tryd.prog laid3 w) (fun _ _ _ hh h => h.of_heap hh) own3 started (by kernel_rfl) Tryd.func8
    (ChangeSpec.witness_shaped (enc := enc) (C := Tryd.checked) (os := os) (X := fun w _ => laidMetH Tryd.prog laid3 w) false (World.doorLaid Tryd.prog 14 os) #[.int .i64 0, .slice none 0 0, .int .i64 0, .int .i64 0, .int .i64 0, .int .i64 0] 8 rfl (World.shaped_of_RefB (by kernel_rfl) (by kernel_rfl)) (by kernel_rfl) (by kernel_rfl) (by kernel_rfl) (door_met os _))
    laidOut3 (by kernel_rfl) (by kernel_rfl) (by kernel_rfl) rfl (len_6 fun _ _ _ _ _ _ => rfl)
    (fun w => ⟨o_int (by kernel_rfl), o_fives, o_int (by kernel_rfl), o_int (by kernel_rfl), o_int (by kernel_rfl), o_int (by kernel_rfl), trivial⟩)
    (allP_6 fun a0 a1 a2 a3 a4 a5 h0 h1 h2 h3 h4 h5 => by
      obtain ⟨x0, hx0, rfl⟩ := h0
      obtain ⟨x1, hx1, hr1, rfl⟩ := h1
      obtain ⟨x2, hx2, rfl⟩ := h2
      obtain ⟨x3, hx3, rfl⟩ := h3
      obtain ⟨x4, hx4, rfl⟩ := h4
      obtain ⟨x5, hx5, rfl⟩ := h5
      exact binds_ev x0 x1 x2 x3 x4 x5 hx0 hx1 hr1 hx2 hx3 hx4 hx5)
    (fun _ _ h => gok h)
theorem auditBinds_row : Rows.AuditBindsSaid :=
  OpenClaim.holds_of_wide 8 Tryd.f8 rfl rfl rfl rfl rfl rfl rfl ⟨rfl, rfl, rfl, rfl, rfl⟩ rfl rfl rfl rfl rfl (by kernel_rfl) Tryd.func8 (by kernel_rfl)
    (of_decide_eq_true (by kernel_rfl)) (by unfold Func.isWrapper; first | (rw [if_pos (by decide +kernel)]; kernel_rfl) | (rw [if_neg (by decide +kernel)]; exact ⟨rfl, rfl⟩))
    (fun os started H enc _ => auditBinds_lifted os started H enc)
theorem auditBinds_holds : Rows.AuditBindsCardSaid :=
  Claim7.holds_tied_plain_at .later [] [.data] true (true, "15e72945ea0d842684219eb61c4c3078e08fef8eedac21bc7f2d20fbaca9026f") false
    auditBinds_row (fun _ h => by cases h) (by kernel_rfl) (fun _ h => by cases h) auditBinds_row_tie rfl ⟨rfl, rfl⟩ (by kernel_rfl) rfl
    (fun f fn hf hfn => by
      obtain rfl : f = 8 := Option.some.inj ((show Tryd.prog.funcNamed "dialtone/dialtonelaw40.AuditBinds" = some 8 by kernel_rfl).symm.trans hf) |>.symm
      obtain rfl : fn = Tryd.f8 := (Option.some.inj (Tryd.func8.symm.trans hfn)).symm
      exact ⟨by kernel_rfl, fun j t ht => by
          rw [Tryd.params8] at ht
          rcases j with _ | j
          · obtain rfl : t = 3 := by simpa using ht.symm
            exact (show Tryd.prog.wantsStandIn 3 = false by kernel_rfl)
          rcases j with _ | j
          · obtain rfl : t = 22 := by simpa using ht.symm
            exact (show Tryd.prog.wantsStandIn 22 = false by kernel_rfl)
          rcases j with _ | j
          · obtain rfl : t = 3 := by simpa using ht.symm
            exact (show Tryd.prog.wantsStandIn 3 = false by kernel_rfl)
          rcases j with _ | j
          · obtain rfl : t = 3 := by simpa using ht.symm
            exact (show Tryd.prog.wantsStandIn 3 = false by kernel_rfl)
          rcases j with _ | j
          · obtain rfl : t = 3 := by simpa using ht.symm
            exact (show Tryd.prog.wantsStandIn 3 = false by kernel_rfl)
          rcases j with _ | j
          · obtain rfl : t = 3 := by simpa using ht.symm
            exact (show Tryd.prog.wantsStandIn 3 = false by kernel_rfl)
          simp at ht⟩)
    (by kernel_rfl)
#print axioms auditBinds_holds
end Go.Proofs.YtgbcfpcjljhijaaDoor

/- The law LegMatchesReference: the row and the card. -/
import Derived.Test.YtnpbhgeffapojaaGreatDoorKI
set_option linter.all false
set_option maxRecDepth 100000
namespace Go.Proofs.YtnpbhgeffapojaaGreatDoor
open Go.Proofs.Tryz
open Go.Vai Go Go.Proofs Go.RowKit
section
variable {H : Type} {enc : TypeId × Value -> H} {w : World}
theorem o_str : Jbz prog enc w 9 OS :=
 (JjG (by kernel_rfl)).mono (fun a ⟨s, h, e⟩ => ⟨s, h, e⟩) fun a ⟨s, h, e⟩ => ⟨s, h, e⟩
def OCn (a : AV) : Prop := ∃ n : Cn, (R64 n.b /\ R64 n.e) /\ a = CNP n
theorem o_count : Jbz prog enc w 31 OCn :=
 (Jbw (ps := [OI, OI]) (Tryz.underlying31) ⟨JeE (by kernel_rfl), JeE (by kernel_rfl), trivial⟩ (by kernel_rfl) (by kernel_rfl)).mono
  (fun a h => by
   obtain ⟨c, d, rfl⟩ := h
   revert d
   exact JnD (Q := fun l => OCn (AV.agg (l.flatMap AV.cells))) (fun a b ⟨f, h1, e1⟩ ⟨x2, h2, e2⟩ => ⟨⟨f, x2⟩, ⟨h1, h2⟩, by subst e1; subst e2; rfl⟩) c)
  fun a ⟨u, h, e⟩ => ⟨[I u.b, I u.e], ⟨⟨_, h.1, rfl⟩, ⟨_, h.2, rfl⟩, trivial⟩, e⟩
def Lg.r64 (l : Lg) : Prop := R64 l.f /\ R64 l.t /\ (R64 l.g.b /\ R64 l.g.e) /\ (R64 l.k.b /\ R64 l.k.e)
def OL (a : AV) : Prop := ∃ l : Lg, l.r64 /\ a = LGP l
theorem o_leg : Jbz prog enc w 33 OL :=
 (Jbw (ps := [OI, OI, OCn, OCn]) (Tryz.underlying33) ⟨JeE (by kernel_rfl), JeE (by kernel_rfl), o_count, o_count, trivial⟩ (by kernel_rfl) (by kernel_rfl)).mono
  (fun a h => by
   obtain ⟨i, j, rfl⟩ := h
   revert j
   exact Jr4 (Q := fun l => OL (AV.agg (l.flatMap AV.cells))) (fun a b c d ⟨m, h1, e1⟩ ⟨x2, h2, e2⟩ ⟨x3, h3, e3⟩ ⟨x4, h4, e4⟩ => ⟨⟨m, x2, x3, x4⟩, ⟨h1, h2, h3, h4⟩, by subst e1; subst e2; subst e3; subst e4; rfl⟩) i)
  fun a ⟨u, h, e⟩ => ⟨[I u.f, I u.t, CNP u.g, CNP u.k], ⟨⟨_, h.1, rfl⟩, ⟨_, h.2.1, rfl⟩, ⟨_, h.2.2.1, rfl⟩, ⟨_, h.2.2.2, rfl⟩, trivial⟩, e⟩
def OWn (a : AV) : Prop := ∃ n : Int × Int, (R64 n.1 /\ R64 n.2) /\ a = WNP n
theorem o_window : Jbz prog enc w 37 OWn :=
 (Jbw (ps := [OI, OI]) (Tryz.underlying37) ⟨JeE (by kernel_rfl), JeE (by kernel_rfl), trivial⟩ (by kernel_rfl) (by kernel_rfl)).mono
  (fun a h => by
   obtain ⟨c, d, rfl⟩ := h
   revert d
   exact JnD (Q := fun l => OWn (AV.agg (l.flatMap AV.cells))) (fun a b ⟨f, h1, e1⟩ ⟨x2, h2, e2⟩ => ⟨(f, x2), ⟨h1, h2⟩, by subst e1; subst e2; rfl⟩) c)
  fun a ⟨u, h, e⟩ => ⟨[I u.1, I u.2], ⟨⟨_, h.1, rfl⟩, ⟨_, h.2, rfl⟩, trivial⟩, e⟩
def Sn.r64 (s : Sn) : Prop := (R64 s.b.1 /\ R64 s.b.2) /\ (R64 s.e.1 /\ R64 s.e.2)
def OW (a : AV) : Prop := ∃ s : Sn, s.r64 /\ a = SNP s
theorem o_span : Jbz prog enc w 39 OW :=
 (Jbw (ps := [OWn, OWn]) (Tryz.underlying39) ⟨o_window, o_window, trivial⟩ (by kernel_rfl) (by kernel_rfl)).mono
  (fun a h => by
   obtain ⟨c, d, rfl⟩ := h
   revert d
   exact JnD (Q := fun l => OW (AV.agg (l.flatMap AV.cells))) (fun a b ⟨f, h1, e1⟩ ⟨x2, h2, e2⟩ => ⟨⟨f, x2⟩, ⟨h1, h2⟩, by subst e1; subst e2; rfl⟩) c)
  fun a ⟨u, h, e⟩ => ⟨[WNP u.b, WNP u.e], ⟨⟨_, h.1, rfl⟩, ⟨_, h.2, rfl⟩, trivial⟩, e⟩
end
open Go.Vai Go Go.Proofs
def bentF (t : Tp) (a b c : Int) : Tp :=
 if 6 <= Jaf a 12 /\ 0 < t.legs.length then
  { t with legs := (
   if Jaf a 12 = 6 then t.legs.set (Jaf c t.legs.length).toNat { gd t.legs (Jaf c t.legs.length).toNat with f := b }
   else if Jaf a 12 = 7 then t.legs.set (Jaf c t.legs.length).toNat { gd t.legs (Jaf c t.legs.length).toNat with t := b }
   else if Jaf a 12 = 8 then t.legs.set (Jaf c t.legs.length).toNat { gd t.legs (Jaf c t.legs.length).toNat with g := ⟨b, (gd t.legs (Jaf c t.legs.length).toNat).g.e⟩ }
   else if Jaf a 12 = 9 then t.legs.set (Jaf c t.legs.length).toNat { gd t.legs (Jaf c t.legs.length).toNat with g := ⟨(gd t.legs (Jaf c t.legs.length).toNat).g.b, b⟩ }
   else if Jaf a 12 = 10 then t.legs.set (Jaf c t.legs.length).toNat { gd t.legs (Jaf c t.legs.length).toNat with k := ⟨(gd t.legs (Jaf c t.legs.length).toNat).k.b, b⟩ }
   else t.legs ++ [gd t.legs (Jaf c t.legs.length).toNat]) }
 else if Jaf a 12 = 0 then { t with hops := t.hops.set (Jaf c t.hops.length).toNat (b, (gd t.hops (Jaf c t.hops.length).toNat).2) }
 else if Jaf a 12 = 1 then { t with hops := t.hops.set (Jaf c t.hops.length).toNat ((gd t.hops (Jaf c t.hops.length).toNat).1, b) }
 else if Jaf a 12 = 2 then { t with offs := t.offs.set (Jaf c 8).toNat b }
 else if Jaf a 12 = 3 then { t with key := keyF (1 + Jaf b 7) }
 else if Jaf a 12 = 4 then { t with ups := t.ups.take (Jaf c t.ups.length).toNat }
 else { t with cks := t.cks.take 7 }
@[go_sem] theorem append_HPP0 (l : List (Int × Int)) : ([] : List AV) ++ l.map HPP = l.map HPP := L1Q _
@[go_sem] theorem set_HPP (l : List (Int × Int)) (n : Nat) (a b : Int) : (l.map HPP).set n (.agg [.v (.int .i64 a), .v (.int .i64 b)]) = (l.set n (a, b)).map HPP := by rw [List.map_set]
@[go_sem] theorem set_LGP (l : List Lg) (n : Nat) (a b c d e f : Int) : (l.map LGP).set n (.agg [.v (.int .i64 a), .v (.int .i64 b), .v (.int .i64 c), .v (.int .i64 d), .v (.int .i64 e), .v (.int .i64 f)]) = (l.set n (⟨a, b, ⟨c, d⟩, ⟨e, f⟩⟩ : Lg)).map LGP := by rw [List.map_set]
@[go_sem] theorem append_LGPb (l : List Lg) (a b c d e f : Int) : l.map LGP ++ [.agg [.v (.int .i64 a), .v (.int .i64 b), .v (.int .i64 c), .v (.int .i64 d), .v (.int .i64 e), .v (.int .i64 f)]] = (l ++ [(⟨a, b, ⟨c, d⟩, ⟨e, f⟩⟩ : Lg)]).map LGP := by simp
set_option maxHeartbeats 8000000 in
theorem bent_ev (t : Tp) (a b c : Int) (ht : t.ok) (h : Jdv t = true) (ha : R64 a) (hb : R64 b) (hc : R64 c) : Ev prog 14 [TPP t, I a, I b, I c] (TPP (bentF t a b c)) := by
  obtain ⟨_, ⟨hh, hl, hcl, htl, hol, hul⟩, _⟩ := JaT.1 h
  have hu : 0 < t.ups.length := by have := JiO h (i := 0) (by omega); omega
  have d1 := Jav c t.hops.length hc (by omega)
  have p1 := Jai (c := c) (n := t.hops.length) (by omega)
  have d2 := Jav a 12 ha (by omega)
  have p2 := Jai (c := a) (n := 12) (by omega)
  have d3 := fun (h : 0 < t.legs.length) => Jav c t.legs.length hc (by omega)
  have p3 := fun (h : 0 < t.legs.length) => Jai (c := c) (n := t.legs.length) (by omega)
  have d4 := Jav c 8 hc (by omega)
  have p4 := Jai (c := c) (n := 8) (by omega)
  have d5 := Jav b 7 hb (by omega)
  have p5 := Jai (c := b) (n := 7) (by omega)
  have d6 := JoS (1 + Jaf b 7) (by omega)
  have d7 := Jav c t.ups.length hc (by omega)
  have p7 := Jai (c := c) (n := t.ups.length) (by omega)
  have hT := (rfl : bentF t a b c = bentF t a b c)
  conv at hT => rhs; unfold bentF
  generalize bentF t a b c = T at *; generalize Jaf a 12 = k at *; generalize Jaf c t.hops.length = i1 at *; generalize Jaf c t.legs.length = j at *; generalize Jaf c 8 = o at *; generalize Jaf c t.ups.length = u at *; generalize Jaf b 7 = q at *
  obtain ⟨hops, legs, cks, tfs, offs, key, ⟨⟨pc, pn, pr, ps⟩, pl⟩, call, ups⟩ := t
  simp only at *
  clear h
  have hi : i1.toNat < hops.length := by omega
  have ho : o.toNat < offs.length := by omega
  have hu2 : u.toNat < ups.length := by omega
  have q1 : ∀ n x, (legs.set n x).take legs.length = legs.set n x := fun n x => L0a (by rw [L22]; exact L0b _)
  have q2 : ∀ n x, (hops.set n x).take hops.length = hops.set n x := fun n x => L0a (by rw [L22]; exact L0b _)
  have q3 : ∀ n x, (offs.set n x).take offs.length = offs.set n x := fun n x => L0a (by rw [L22]; exact L0b _)
  refine EW [20, 33] func14 ?_
  simp -implicitDefEqProofs (disch := omega) only [go_sem, ntmps14, false_and, and_self]
  refine Jaa d1 ?_
  simp -implicitDefEqProofs (disch := omega) only [go_sem, false_and, and_self]
  refine Jaa d2 ?_
  simp -implicitDefEqProofs (disch := omega) only [go_sem, false_and, and_self]
  refine Jab (fun g1 => ?_) (fun g1 => ?_)
  . simp -implicitDefEqProofs (disch := omega) only [go_sem, false_and, and_self]
    refine Jab (fun g2 => ?_) (fun g2 => ?_)
    . have hl0 : 0 < legs.length := by omega
      rw [if_pos ⟨g1, hl0⟩] at hT; have pj := p3 hl0
      have hj : j.toNat < legs.length := by omega
      simp -implicitDefEqProofs (disch := omega) only [go_sem, false_and, and_self]
      refine Jaa (d3 hl0) ?_
      simp -implicitDefEqProofs (disch := omega) only [go_sem, false_and, and_self]
      refine Jab (fun e6 => ?_) (fun e6 => ?_)
      . rw [if_pos e6] at hT; simp -implicitDefEqProofs (disch := omega) only [go_sem, false_and, and_self]
        refine Jao Plain.mono [31457472, 31457552, 31457632] ?_
        simp -implicitDefEqProofs (disch := omega) only [go_sem, false_and, and_self, hT, L22, L09, q1, q2, q3, results14]; try rfl
      . rw [if_neg e6] at hT; simp -implicitDefEqProofs (disch := omega) only [go_sem, false_and, and_self]
        refine Jab (fun e7 => ?_) (fun e7 => ?_)
        . rw [if_pos e7] at hT; simp -implicitDefEqProofs (disch := omega) only [go_sem, false_and, and_self]
          refine Jao Plain.mono [31457472, 31457552, 31457632] ?_
          simp -implicitDefEqProofs (disch := omega) only [go_sem, false_and, and_self, hT, L22, L09, q1, q2, q3, results14]; try rfl
        . rw [if_neg e7] at hT; simp -implicitDefEqProofs (disch := omega) only [go_sem, false_and, and_self]
          refine Jab (fun e8 => ?_) (fun e8 => ?_)
          . rw [if_pos e8] at hT; simp -implicitDefEqProofs (disch := omega) only [go_sem, false_and, and_self]
            refine Jao Plain.mono [31457472, 31457552, 31457632] ?_
            simp -implicitDefEqProofs (disch := omega) only [go_sem, false_and, and_self, hT, L22, L09, q1, q2, q3, results14]; try rfl
          . rw [if_neg e8] at hT; simp -implicitDefEqProofs (disch := omega) only [go_sem, false_and, and_self]
            refine Jab (fun e9 => ?_) (fun e9 => ?_)
            . rw [if_pos e9] at hT; simp -implicitDefEqProofs (disch := omega) only [go_sem, false_and, and_self]
              refine Jao Plain.mono [31457472, 31457552, 31457632] ?_
              simp -implicitDefEqProofs (disch := omega) only [go_sem, false_and, and_self, hT, L22, L09, q1, q2, q3, results14]; try rfl
            . rw [if_neg e9] at hT; simp -implicitDefEqProofs (disch := omega) only [go_sem, false_and, and_self]
              refine Jab (fun e10 => ?_) (fun e10 => ?_)
              . rw [if_pos e10] at hT; simp -implicitDefEqProofs (disch := omega) only [go_sem, false_and, and_self]
                refine Jao Plain.mono [31457472, 31457552, 31457632] ?_
                simp -implicitDefEqProofs (disch := omega) only [go_sem, false_and, and_self, hT, L22, L09, q1, q2, q3, results14]; try rfl
              . rw [if_neg e10] at hT; simp -implicitDefEqProofs (disch := omega) only [go_sem, false_and, and_self]
                refine Jao Plain.mono [31457472, 31457552, 31457632] ?_
                simp -implicitDefEqProofs (disch := omega) only [go_sem, false_and, and_self, hT, L22, L09, q1, q2, q3, results14]; try rfl
    . rw [if_neg (fun h => g2 (by omega)), if_neg (by omega), if_neg (by omega), if_neg (by omega), if_neg (by omega), if_neg (by omega)] at hT
      simp -implicitDefEqProofs (disch := omega) only [go_sem, false_and, and_self]
      refine Jan (by omega) ?_
      simp -implicitDefEqProofs (disch := omega) only [go_sem, false_and, and_self]
      refine Jan (by omega) ?_
      simp -implicitDefEqProofs (disch := omega) only [go_sem, false_and, and_self]
      refine Jan (by omega) ?_
      simp -implicitDefEqProofs (disch := omega) only [go_sem, false_and, and_self]
      refine Jan (by omega) ?_
      simp -implicitDefEqProofs (disch := omega) only [go_sem, false_and, and_self]
      refine Jan (by omega) ?_
      simp -implicitDefEqProofs (disch := omega) only [go_sem, false_and, and_self]
      refine Jao Plain.mono [31457472, 31457552, 31457632] ?_
      simp -implicitDefEqProofs (disch := omega) only [go_sem, false_and, and_self, hT, L22, L09, q1, q2, q3, results14]; try rfl
  . rw [if_neg (fun h => g1 h.1)] at hT
    simp -implicitDefEqProofs (disch := omega) only [go_sem, false_and, and_self]
    refine Jab (fun e0 => ?_) (fun e0 => ?_)
    . rw [if_pos e0] at hT; simp -implicitDefEqProofs (disch := omega) only [go_sem, false_and, and_self]
      refine Jao Plain.mono [31457472, 31457552, 31457632] ?_
      simp -implicitDefEqProofs (disch := omega) only [go_sem, false_and, and_self, hT, L22, L09, q1, q2, q3, results14]; try rfl
    . rw [if_neg e0] at hT; simp -implicitDefEqProofs (disch := omega) only [go_sem, false_and, and_self]
      refine Jab (fun e1 => ?_) (fun e1 => ?_)
      . rw [if_pos e1] at hT; simp -implicitDefEqProofs (disch := omega) only [go_sem, false_and, and_self]
        refine Jao Plain.mono [31457472, 31457552, 31457632] ?_
        simp -implicitDefEqProofs (disch := omega) only [go_sem, false_and, and_self, hT, L22, L09, q1, q2, q3, results14]; try rfl
      . rw [if_neg e1] at hT; simp -implicitDefEqProofs (disch := omega) only [go_sem, false_and, and_self]
        refine Jab (fun e2 => ?_) (fun e2 => ?_)
        . rw [if_pos e2] at hT; simp -implicitDefEqProofs (disch := omega) only [go_sem, false_and, and_self]
          refine Jaa d4 ?_
          simp -implicitDefEqProofs (disch := omega) only [go_sem, false_and, and_self]
          refine Jao Plain.mono [31457472, 31457552, 31457632] ?_
          simp -implicitDefEqProofs (disch := omega) only [go_sem, false_and, and_self, hT, L22, L09, q1, q2, q3, results14]; try rfl
        . rw [if_neg e2] at hT; simp -implicitDefEqProofs (disch := omega) only [go_sem, false_and, and_self]
          refine Jab (fun e3 => ?_) (fun e3 => ?_)
          . rw [if_pos e3] at hT; simp -implicitDefEqProofs (disch := omega) only [go_sem, false_and, and_self]
            refine Jaa d5 ?_
            simp -implicitDefEqProofs (disch := omega) only [go_sem, false_and, and_self]
            refine Jaa d6 ?_
            simp -implicitDefEqProofs (disch := omega) only [go_sem, false_and, and_self]
            refine Jao Plain.mono [31457472, 31457552, 31457632] ?_
            simp -implicitDefEqProofs (disch := omega) only [go_sem, false_and, and_self, hT, L22, L09, q1, q2, q3, results14]; try rfl
          . rw [if_neg e3] at hT; simp -implicitDefEqProofs (disch := omega) only [go_sem, false_and, and_self]
            refine Jab (fun e4 => ?_) (fun e4 => ?_)
            . rw [if_pos e4] at hT; simp -implicitDefEqProofs (disch := omega) only [go_sem, false_and, and_self]
              refine Jaa d7 ?_
              simp -implicitDefEqProofs (disch := omega) only [go_sem, false_and, and_self]
              refine Jao Plain.mono [31457472, 31457552, 31457632] ?_
              simp -implicitDefEqProofs (disch := omega) only [go_sem, false_and, and_self, hT, L22, L09, q1, q2, q3, results14]; try rfl
            . rw [if_neg e4] at hT; simp -implicitDefEqProofs (disch := omega) only [go_sem, false_and, and_self]
              refine Jao Plain.mono [31457472, 31457552, 31457632] ?_
              simp -implicitDefEqProofs (disch := omega) only [go_sem, false_and, and_self, hT, L22, L09, q1, q2, q3, results14]; try rfl
section
variable (x : Tf) (z a b : Int)
end
section
variable (p : Nat -> Bool) (l : List (Int × Int × Int))
end
section
variable (p : Nat -> Bool) (l : List Tp)
@[go_sem] theorem namesL_TPP : AV.namesL p (l.map TPP) = false := Jak p l TPP fun _ => by simp only [go_sem]
@[go_sem] theorem allOK_TPP : JbB 13 (l.map TPP) = true := JaD 13 l TPP fun _ => ⟨rfl, rfl⟩
end
theorem dn_TPP (t : Tp) : (TPP t).dn = false := by
 have a : AV.dnL (t.hops.map HPP) = false := Jbt HPP (fun x => by simp only [AV.dn, AV.dnL, L14]) _
 have b : AV.dnL (t.legs.map LGP) = false := Jbt LGP (fun x => by simp only [AV.dn, AV.dnL, L14]) _
 have c : AV.dnL (t.cks.map CKP) = false := Jbt CKP Jcp _
 have d : AV.dnL (t.tfs.map TF) = false := Jbt TF Jxe _
 have e : AV.dnL (t.part.l.map ITP) = false := Jbt ITP (fun x => by simp only [AV.dn, AV.dnL, Jbt _ (fun x => AV.dn.eq_2 _), L14]) _
 have f : AV.dnL (t.ups.map Str) = false := Jbt Str (fun x => AV.dn.eq_2 _) _
 simp only [AV.dn, AV.dnL, a, b, c, d, e, f, Jxd, L14]
instance : Inhabited Tp := ⟨⟨[], [], [], [], [], .empty, ⟨⟨0, 0, .empty, .empty⟩, []⟩, .empty, []⟩⟩
def lgR (l : Lg) : Prop := R64 l.f /\ R64 l.t /\ (R64 l.g.b /\ R64 l.g.e) /\ (R64 l.k.b /\ R64 l.k.e)
theorem legF_r64 {l : Lg} (h : legF l = true) : lgR l := by
 obtain ⟨⟨c, d, e⟩, a, b⟩ := Jb0.1 h
 have a := Jco.1 a; have b := Jco.1 b; unfold lgR R64
 omega
theorem bent_legs (t : Tp) (a b c : Int) (h6 : 6 <= Jaf a 12) (hl : 0 < t.legs.length) (hb : R64 b) (hg : ∀ g ∈ t.legs, lgR g) (hc : (Jaf c t.legs.length).toNat < t.legs.length) :
 (0 < (bentF t a b c).legs.length /\ (bentF t a b c).legs.length <= t.legs.length + 1) /\ ∀ g ∈ (bentF t a b c).legs, lgR g := by
 have hgd := hg _ (Jar t.legs _ hc)
 obtain ⟨g1, g2, ⟨g3, g4⟩, g5, g6⟩ := hgd
 unfold bentF; rw [if_pos ⟨h6, hl⟩]
 simp only
 constructor
 . repeat' split
   all_goals simp only [L22, L09, L0g, L0z]; omega
 . intro g hm
   repeat' split at hm
   all_goals first
    | (rcases L21 hm with hm | rfl
       . exact hg g hm
       . exact ⟨by assumption, by assumption, ⟨by assumption, by assumption⟩, by assumption, by assumption⟩)
    | (rcases L0v.1 hm with hm | hm
       . exact hg g hm
       . obtain rfl := L0o.1 hm
         exact ⟨g1, g2, ⟨g3, g4⟩, g5, g6⟩)
theorem pick_own {c n : Int} (a : 0 <= c) (b : c < n) : Jaf c n = c := by
 unfold Jaf
 rw [if_neg (by omega), L11 a, Int.emod_eq_of_lt a b]
def MI (k e b : Int) (t : Tp) (K : Ck) (g : Sn) (f : ByteArray) (c : List Lg) (E : Env) (a : Jac) : Prop :=
 E 1 = I k /\ (∃ d, E 5 = Str d) /\ E 6 = I e /\ E 8 = Str f /\ E 16 = .ptr 8388864 4 0 0 /\ E 20 = .ptr 8388928 13 0 0 /\ E 22 = .ptr 8388960 2 0 0 /\ E 23 = .ptr 8388976 2 0 0 /\
 E 24 = .own 8389584 6 0 c.length /\ a 8388864 = some ⟨39, 4, [SNP g]⟩ /\ a 8388928 = some ⟨52, 13, [TPP t]⟩ /\
 a 8388960 = some ⟨58, 2, [CKP K]⟩ /\ a 8388976 = some ⟨58, 2, [CKP ⟨b, K.r⟩]⟩ /\ a 8389584 = some ⟨33, 6, c.map LGP⟩
set_option maxHeartbeats 16000000 in
theorem matches_ev (x : Nm) (k a b c : Int) (l : Lg) (y : Cr) (s : ByteArray) (e : Int) (sp : Sn) (s2 : ByteArray) (hx : x.ok) (hk : R64 k) (ha : R64 a) (hb : R64 b) (hc : R64 c) (hl : lgR l) (hy : y.ok) (hs : s.size <= 9223372036854775807) (he : R64 e) (hsp : (R64 sp.b.1 /\ R64 sp.b.2) /\ (R64 sp.e.1 /\ R64 sp.e.2)) (hs2 : s2.size <= 9223372036854775807) :
 Ev prog 3 [NMP x, I k, .agg [I a, I b, I c], LGP l, CRP y, Str s, I e, SNP sp, Str s2] (B true) := by
 have d0 := Juv; have d1 := JgE x hx; have ht := JgD x hx; have hv := Ja3 x; generalize Jaw x = t at *; have hlen := (JaT.1 hv).2.1
 have d2 := Jc4 a 5 ha (by omega)
 have p2 := Jai (c := a) (n := 5) (by omega)
 have d3 := bent_ev t (6 + Jaf a 5) b c ht hv (by unfold R64; omega) hb hc
 have hgl : ∀ g ∈ t.legs, lgR g := fun g hg => by
  obtain ⟨i, hi, rfl⟩ := List.mem_iff_getElem.1 hg
  have := (JiP hv hi).1
  rw [show gd t.legs i = t.legs[i] by unfold gd; simp [hi]] at this
  exact legF_r64 this
 have hbl : 0 < t.legs.length -> (0 < (bentF t (6 + Jaf a 5) b c).legs.length /\ (bentF t (6 + Jaf a 5) b c).legs.length <= t.legs.length + 1) /\ ∀ g ∈ (bentF t (6 + Jaf a 5) b c).legs, lgR g := fun h => by
  have := Jai (c := c) (n := t.legs.length) (by omega)
  exact bent_legs t _ b c (by rw [pick_own (by omega) (by omega)]; omega) h hb hgl (by omega)
 generalize bentF t (6 + Jaf a 5) b c = u at *; generalize Jaf a 5 = a5 at *; have d4 := Jho y hy; have hyr := Jtl y
 have d5 := fun (h : 0 < t.legs.length) => Jc4 k t.legs.length hk (by omega)
 have p5 := fun (h : 0 < t.legs.length) => Jai (c := k) (n := t.legs.length) (by omega)
 have d6 := fun (h : 0 < u.legs.length) => Jc4 k u.legs.length hk (by omega)
 have p6 := fun (h : 0 < u.legs.length) => Jai (c := k) (n := u.legs.length) (by omega)
 have hu : 0 < t.ups.length := by have := JiO hv (i := 0) (by omega); omega
 have d7 := Jc4 k t.ups.length hk (by omega)
 have p7 := Jai (c := k) (n := t.ups.length) (by omega)
 have d8 := Jc4 e 2 he (by omega)
 have p8 := Jai (c := e) (n := 2) (by omega)
 generalize hck : y.clk = K at *; obtain ⟨kd, kr⟩ := K; obtain ⟨yd, ys, yr, ya⟩ := y; obtain ⟨xh, xl, xc, xb, xr, xo, xw⟩ := x
 obtain ⟨lf, lt, ⟨lg1, lg2⟩, ⟨lk1, lk2⟩⟩ := l
 simp only at *
 refine EV func3 ?_
 simp -implicitDefEqProofs (disch := omega) only [go_sem, ntmps3]
 refine Jaa d0 ?_
 simp -implicitDefEqProofs (disch := omega) only [go_sem]
 refine Jaa d1 ?_
 simp -implicitDefEqProofs (disch := omega) only [go_sem]
 refine Jaa d2 ?_
 simp -implicitDefEqProofs (disch := omega) only [go_sem]
 refine Jaa d3 ?_ (h4 := .inr (dn_TPP u))
 simp -implicitDefEqProofs (disch := omega) only [go_sem]
 refine Jaa d4 ?_
 simp -implicitDefEqProofs (disch := omega) only [go_sem]
 refine Jbe (fun E σ => ∃ (ls : List Lg), ls.length <= 3 /\ (∀ g ∈ ls, lgR g) /\ MI k e b t ⟨kd, kr⟩ sp s2 ls E σ) (fun g1 => ?_) (fun g1 => ?_) ?_
 . have g0 : 0 < t.legs.length := by omega
   obtain ⟨⟨u1, u2⟩, u3⟩ := hbl g0
   have q5 := p5 g0; have q6 := p6 u1; simp -implicitDefEqProofs (disch := omega) only [go_sem]
   refine Jaa (d5 g0) ?_
   simp -implicitDefEqProofs (disch := omega) only [go_sem]
   refine Jaa (d6 u1) ?_
   have j5 : (Jaf k t.legs.length).toNat < t.legs.length := by omega
   have j6 : (Jaf k u.legs.length).toNat < u.legs.length := by omega
   have r5 := hgl _ (Jar _ _ j5); have r6 := u3 _ (Jar _ _ j6); generalize Jaf k t.legs.length = v5 at *; generalize Jaf k u.legs.length = v6 at *; simp -implicitDefEqProofs (disch := omega) only [go_sem]
   refine ⟨[⟨lf, lt, ⟨lg1, lg2⟩, ⟨lk1, lk2⟩⟩, gd t.legs v5.toNat, gd u.legs v6.toNat], by simp, ?_, ?_⟩
   . intro g hg
     rcases L0j.1 hg with rfl | hg
     . exact hl
     rcases L0j.1 hg with rfl | hg
     . exact r5
     . obtain rfl := L0o.1 hg
       exact r6
   . simp -implicitDefEqProofs (disch := omega) only [go_sem, MI]
     (repeat' apply And.intro) <;> first | rfl | exact ⟨_, rfl⟩
 . simp -implicitDefEqProofs (disch := omega) only [go_sem]
   refine ⟨[⟨lf, lt, ⟨lg1, lg2⟩, ⟨lk1, lk2⟩⟩], by simp, ?_, ?_⟩
   . intro g hg
     obtain rfl := L0o.1 hg
     exact hl
   . simp -implicitDefEqProofs (disch := omega) only [go_sem, MI]
     (repeat' apply And.intro) <;> first | rfl | exact ⟨_, rfl⟩
 clear hbl hgl d3 d6 p6 d4
 rintro E σ ⟨ls, hll, hlr, e1, ⟨s', e5⟩, e6, e8, e16, e20, e22, e23, e24, m16, m20, m22, m23, m61⟩
 simp -implicitDefEqProofs (disch := omega) only [go_sem, e1, e5, e6, e8, e16, e20, e22, e23, e24, m16, m20, m22, m23, m61]
 refine Jag (fun m E σ => ∃ i : Nat, i + m = ls.length /\ MI k e b t ⟨kd, kr⟩ sp s2 ls E σ /\ E 25 = I i) ls.length ⟨0, by omega, ?_⟩ ?_
 . simp -implicitDefEqProofs (disch := omega) only [go_sem, MI, e1, e5, e6, e8, e16, e20, e22, e23, e24, m16, m20, m22, m23, m61]
   (repeat' apply And.intro) <;> first | rfl | exact ⟨_, rfl⟩
 clear e1 e5 e6 e8 e16 e20 e22 e23 e24 m16 m20 m22 m23 m61 E σ s'
 rintro m E σ ⟨i, hi, ⟨e1, ⟨s', e5⟩, e6, e8, e16, e20, e22, e23, e24, m16, m20, m22, m23, m61⟩, e25⟩
 simp -implicitDefEqProofs (disch := omega) only [go_sem, e1, e5, e6, e8, e16, e20, e22, e23, e24, m16, m20, m22, m23, m61, e25]
 refine Jab (fun hc => ?_) (fun hc => ?_)
 . have hil : i < ls.length := by omega
   obtain ⟨q1, q2, _⟩ := hlr _ (Jar ls i hil)
   generalize hgg : gd ls i = g at *
   have a1 := Jc4 g.f 8 q1 (by omega)
   have a2 := Jc4 g.t 8 q2 (by omega)
   have b1 := Jai (c := g.f) (n := 8) (by omega)
   have b2 := Jai (c := g.t) (n := 8) (by omega)
   have hcl := (JaT.1 hv).2.1.2.2.1; generalize Jaf g.f 8 = F at *; generalize Jaf g.t 8 = T at *
   have hF : F.toNat < t.cks.length := by omega
   have hT : T.toNat < t.cks.length := by omega
   have r1 := ht.rds _ (Jar _ _ hF); have r2 := ht.rds _ (Jar _ _ hT); have c1 := JcR (gd t.cks F.toNat) (gd t.cks T.toNat) g t.key t.part e ht.part r1 r2; have c2 := JcR ⟨kd, kr⟩ (gd t.cks T.toNat) g t.key t.part (1 + Jaf e 2) ht.part hyr r2; have c3 := JcR (gd t.cks T.toNat) ⟨b, kr⟩ g t.key t.part 1 ht.part r2 hyr; have c4 := JcR (gd t.cks F.toNat) (gd t.cks T.toNat) g s' t.part 2 ht.part r1 r2; simp -implicitDefEqProofs (disch := omega) only [go_sem, e1, e5, e6, e8, e16, e20, e22, e23, e24, m16, m20, m22, m23, m61, e25, hgg]
   refine Jaa a1 ?_
   simp -implicitDefEqProofs (disch := omega) only [go_sem, e1, e5, e6, e8, e16, e20, e22, e23, e24, m16, m20, m22, m23, m61, e25, hgg]
   refine Jaa a2 ?_
   simp -implicitDefEqProofs (disch := omega) only [go_sem, e1, e5, e6, e8, e16, e20, e22, e23, e24, m16, m20, m22, m23, m61, e25, hgg]
   refine Jaa c1 ?_
   simp -implicitDefEqProofs (disch := omega) only [go_sem, e1, e5, e6, e8, e16, e20, e22, e23, e24, m16, m20, m22, m23, m61, e25, hgg]
   refine Jaa d8 ?_
   simp -implicitDefEqProofs (disch := omega) only [go_sem, e1, e5, e6, e8, e16, e20, e22, e23, e24, m16, m20, m22, m23, m61, e25, hgg]
   refine Jaa c2 ?_
   simp -implicitDefEqProofs (disch := omega) only [go_sem, e1, e5, e6, e8, e16, e20, e22, e23, e24, m16, m20, m22, m23, m61, e25, hgg]
   refine Jaa c3 ?_
   simp -implicitDefEqProofs (disch := omega) only [go_sem, e1, e5, e6, e8, e16, e20, e22, e23, e24, m16, m20, m22, m23, m61, e25, hgg]
   refine Jaa c4 ?_
   simp -implicitDefEqProofs (disch := omega) only [go_sem, e1, e5, e6, e8, e16, e20, e22, e23, e24, m16, m20, m22, m23, m61, e25, hgg]
   refine Jad (ls.length - (i + 1)) (by omega) ⟨i + 1, by omega, ?_⟩
   simp -implicitDefEqProofs (disch := omega) only [go_sem, MI, e1, e5, e6, e8, e16, e20, e22, e23, e24, m16, m20, m22, m23, m61, e25]
   (repeat' apply And.intro) <;> first | rfl | exact ⟨_, rfl⟩
 simp -implicitDefEqProofs (disch := omega) only [go_sem, e1, e5, e6, e8, e16, e20, m16, m20]
 refine Jaa d7 ?_
 have j7 : (Jaf k t.ups.length).toNat < t.ups.length := by omega
 generalize Jaf k t.ups.length = v7 at *; simp -implicitDefEqProofs (disch := omega) only [go_sem, e1, e5, e6, e8, e16, e20, m16, m20]
 have hcall : t.call.size <= t.call.size := L0b _
 refine Jbe (fun E σ => ∃ (ss : List ByteArray), ss.length <= 4 /\ E 5 = Str s' /\ E 16 = .ptr 8388864 4 0 0 /\ E 20 = .ptr 8388928 13 0 0 /\ E 29 = .own 8391296 1 0 ss.length /\ σ 8388864 = some ⟨39, 4, [SNP sp]⟩ /\ σ 8388928 = some ⟨52, 13, [TPP t]⟩ /\ σ 8391296 = some ⟨9, 1, ss.map Str⟩) (fun g1 => ?_) (fun g1 => ?_) ?_
 . have g0 : 0 < t.legs.length := by omega
   have q5 := p5 g0
   have j5 : (Jaf k t.legs.length).toNat < t.legs.length := by omega
   obtain ⟨rs, rn, hr⟩ := Jpy (gd t.legs (Jaf k t.legs.length).toNat) (1 + Jaf e 2)
   have c1 := JgU (gd t.legs (Jaf k t.legs.length).toNat) (1 + Jaf e 2); rw [hr] at c1; simp -implicitDefEqProofs (disch := omega) only [go_sem, e1, e5, e6, e8, e16, e20, m16, m20]
   refine Jaa (d5 g0) ?_
   simp -implicitDefEqProofs (disch := omega) only [go_sem, e1, e5, e6, e8, e16, e20, m16, m20]
   refine Jaa d8 ?_
   simp -implicitDefEqProofs (disch := omega) only [go_sem, e1, e5, e6, e8, e16, e20, m16, m20]
   refine Jaa c1 ?_
   simp -implicitDefEqProofs (disch := omega) only [go_sem, e1, e5, e6, e8, e16, e20, m16, m20]
   refine ⟨[t.call, gd t.ups v7.toNat, s2, rs], by simp, ?_⟩
   simp -implicitDefEqProofs (disch := omega) only [go_sem, e1, e5, e6, e8, e16, e20, m16, m20]
   try ((repeat' apply And.intro) <;> rfl)
 . simp -implicitDefEqProofs (disch := omega) only [go_sem, e1, e5, e6, e8, e16, e20, m16, m20]
   refine ⟨[t.call, gd t.ups v7.toNat, s2], by simp, ?_⟩
   simp -implicitDefEqProofs (disch := omega) only [go_sem, e1, e5, e6, e8, e16, e20, m16, m20]
   try ((repeat' apply And.intro) <;> rfl)
 clear e1 e5 e6 e8 e16 e20 e22 e23 e24 m16 m20 m22 m23 m61 e25 E σ d5 p5
 rintro E σ ⟨ss, hsl, e5, e16, e20, e29, m16, m20, m168⟩
 have f1 := fun u w => Jcb t.key t.part u w ht.part
 have f2 := fun u w => Jgr t.key t.part u w ht.part
 have f3 := fun u w => Jcb s' t.part u w ht.part
 have f4 := fun u w => Jgr s' t.part u w ht.part
 simp -implicitDefEqProofs (disch := omega) only [go_sem, e5, e16, e20, e29, m16, m20, m168]
 refine Jag (fun m E σ => ∃ i : Nat, i + m = ss.length /\ E 5 = Str s' /\ E 16 = .ptr 8388864 4 0 0 /\ E 20 = .ptr 8388928 13 0 0 /\ E 29 = .own 8391296 1 0 ss.length /\ E 32 = I i /\ σ 8388864 = some ⟨39, 4, [SNP sp]⟩ /\ σ 8388928 = some ⟨52, 13, [TPP t]⟩ /\ σ 8391296 = some ⟨9, 1, ss.map Str⟩) ss.length ⟨0, by omega, ?_⟩ ?_
 . simp -implicitDefEqProofs (disch := omega) only [go_sem, e5, e16, e20, e29, m16, m20, m168]
   try ((repeat' apply And.intro) <;> rfl)
 clear e5 e16 e20 e29 m16 m20 m168 E σ
 rintro m E σ ⟨i, hi, e5, e16, e20, e29, e32, m16, m20, m168⟩
 simp -implicitDefEqProofs (disch := omega) only [go_sem, e5, e16, e20, e29, m16, m20, m168, e32]
 refine Jab (fun hc => ?_) (fun hc => ?_)
 rotate_left
 . have g1 := Je0 sp; have g2 := Jet sp
   obtain ⟨⟨w1, w2⟩, w3, w4⟩ := sp
   generalize Jd6 ⟨(w1, w2), (w3, w4)⟩ = cw at *; obtain ⟨cw1, cw2⟩ := cw
   try simp only at *
   try simp -implicitDefEqProofs (disch := omega) only [go_sem, e5, e16, e20, e29, m16, m20, m168, e32]
   refine Jaa g1 ?_
   simp -implicitDefEqProofs (disch := omega) only [go_sem, e5, e16, e20, e29, m16, m20, m168, e32]
   refine Jaa g2 ?_
   simp -implicitDefEqProofs (disch := omega) only [go_sem, e5, e16, e20, e29, m16, m20, m168, e32, beq_self_eq_true, Bool.and_self, results3]; try rfl
 have hil : i < ss.length := by omega
 simp -implicitDefEqProofs (disch := omega) only [go_sem, e5, e16, e20, e29, m16, m20, m168, e32]
 refine Jag (fun m E σ => ∃ j : Nat, j + m = ss.length /\ E 5 = Str s' /\ E 16 = .ptr 8388864 4 0 0 /\ E 20 = .ptr 8388928 13 0 0 /\ E 29 = .own 8391296 1 0 ss.length /\ E 32 = I i /\ E 33 = I j /\ σ 8388864 = some ⟨39, 4, [SNP sp]⟩ /\ σ 8388928 = some ⟨52, 13, [TPP t]⟩ /\ σ 8391296 = some ⟨9, 1, ss.map Str⟩) ss.length ⟨0, by omega, ?_⟩ ?_
 . simp -implicitDefEqProofs (disch := omega) only [go_sem, e5, e16, e20, e29, m16, m20, m168, e32]
   try ((repeat' apply And.intro) <;> rfl)
 clear e5 e16 e20 e29 e32 m16 m20 m168 E σ
 rintro m' E σ ⟨j, hj, e5, e16, e20, e29, e32, e33, m16, m20, m168⟩
 simp -implicitDefEqProofs (disch := omega) only [go_sem, e5, e16, e20, e29, m16, m20, m168, e32, e33]
 refine Jab (fun hc2 => ?_) (fun hc2 => ?_)
 rotate_left
 . simp -implicitDefEqProofs (disch := omega) only [go_sem, e5, e16, e20, e29, m16, m20, m168, e32]
   refine Jad (ss.length - (i + 1)) (by omega) ⟨i + 1, by omega, ?_⟩
   simp -implicitDefEqProofs (disch := omega) only [go_sem, e5, e16, e20, e29, m16, m20, m168, e32]; try rfl
 have hjl : j < ss.length := by omega
 simp -implicitDefEqProofs (disch := omega) only [go_sem, e5, e16, e20, e29, m16, m20, m168, e32, e33]
 refine Jaa (f1 _ _) ?_
 simp -implicitDefEqProofs (disch := omega) only [go_sem, e5, e16, e20, e29, m16, m20, m168, e32, e33]
 refine Jaa (f2 _ _) ?_
 simp -implicitDefEqProofs (disch := omega) only [go_sem, e5, e16, e20, e29, m16, m20, m168, e32, e33, bne_self_eq_false]
 try (refine Jab (fun h => absurd rfl h) (fun h => ?_); simp -implicitDefEqProofs (disch := omega) only [go_sem, e5, e16, e20, e29, m16, m20, m168, e32, e33, bne_self_eq_false])
 refine Jaa (f3 _ _) ?_
 simp -implicitDefEqProofs (disch := omega) only [go_sem, e5, e16, e20, e29, m16, m20, m168, e32, e33]
 refine Jaa (f4 _ _) ?_
 simp -implicitDefEqProofs (disch := omega) only [go_sem, e5, e16, e20, e29, m16, m20, m168, e32, e33, bne_self_eq_false]
 try (refine Jab (fun h => absurd rfl h) (fun h => ?_); simp -implicitDefEqProofs (disch := omega) only [go_sem, e5, e16, e20, e29, m16, m20, m168, e32, e33, bne_self_eq_false])
 refine Jad (ss.length - (j + 1)) (by omega) ⟨j + 1, by omega, ?_⟩
 simp -implicitDefEqProofs (disch := omega) only [go_sem, e5, e16, e20, e29, m16, m20, m168, e32, e33]; try rfl
theorem legMatchesReference_lifted (os : Os) (a : os.Started) (H : Type) (enc : TypeId × Value -> H) :
 ReturnsInHanded {} Tryz.checked os 3 .any (fun w b => (Rows.legMatchesReferenceSpec.pre enc prog Tryz.f3 [] false w b /\ laidMetH prog JmS w) /\ sizedMet enc prog Tryz.f3 (OpenSpec.ofChange Rows.legMatchesReferenceSpec) false w b)
  (Rows.legMatchesReferenceSpec.post enc prog Tryz.f3 false true false false) :=
 Jt4 (C := Tryz.checked) (tb := 4) (ps := [ON, OI, OT, OL, OC, OS, OI, OW, OS]) (X := fun w _ => laidMetH prog JmS w) (fun _ _ _ y h => h.of_heap y) own3 a (by kernel_rfl) func3
  (ChangeSpec.witness_shaped (enc := enc) (C := Tryz.checked) (os := os) (X := fun w _ => laidMetH prog JmS w) false (World.doorLaid prog 14 os) #[.agg #[.slice none 0 0, .slice none 0 0, .slice none 0 0, .slice none 0 0, .slice none 0 0, .slice none 0 0, .slice none 0 0], .int .i64 0, .agg #[.int .i64 0, .int .i64 0, .int .i64 0], .agg #[.int .i64 0, .int .i64 0, .int .i64 0, .int .i64 0, .int .i64 0, .int .i64 0], .agg #[.int .i64 0, .int .i64 0, .slice none 0 0, .slice none 0 0], .string ByteArray.empty, .int .i64 0, .agg #[.int .i64 0, .int .i64 0, .int .i64 0, .int .i64 0], .string ByteArray.empty] 8 rfl (World.shaped_of_RefB (by kernel_rfl) (by kernel_rfl)) (by kernel_rfl) (by kernel_rfl) (by kernel_rfl) (JqS os _))
  Jq4 (by kernel_rfl) (by kernel_rfl) (by kernel_rfl) rfl (JB7 fun _ _ _ _ _ _ _ _ _ => rfl)
  (fun w => ⟨Jpb, JeE (by kernel_rfl), Jpc, o_leg, JlW, o_str, JeE (by kernel_rfl), o_span, o_str, trivial⟩)
  (JwA fun M N O P Q R S T U o p q r s t u v x => by
   obtain ⟨z, c, rfl⟩ := o; obtain ⟨A, d, rfl⟩ := p; obtain ⟨B, K, L, e, m, n, rfl⟩ := q; obtain ⟨D, f, rfl⟩ := r; obtain ⟨E, g, rfl⟩ := s; obtain ⟨F, i, rfl⟩ := t; obtain ⟨G, j, rfl⟩ := u; obtain ⟨I, k, rfl⟩ := v; obtain ⟨J, l, rfl⟩ := x
   exact matches_ev z A B K L D E F G I J c d e m n f g i j k l)
  (fun _ _ h => gok h)
theorem and2 {a b : Bool} (c : a = true) (d : b = true) : (a && b) = true := by rw [c, d]; rfl
set_option maxHeartbeats 16000000 in
theorem legMatchesReference_closed : joinedFacts Tryz.checked.prog 3 Tryz.f3 Rows.legMatchesReferenceSpec Rows.legMatchesReferenceRow = true := by
 unfold joinedFacts
 with_reducible repeat' refine and2 ?_ ?_
 all_goals as_aux_lemma => kernel_rfl
theorem legMatchesReference_row : Rows.LegMatchesReferenceSaid :=
 OpenClaim.holds_of_wide 3 Tryz.f3 rfl rfl rfl rfl rfl rfl rfl ⟨rfl, rfl, rfl, rfl, rfl⟩ rfl rfl rfl rfl rfl (by kernel_rfl) func3 legMatchesReference_closed
  (of_decide_eq_true (by kernel_rfl)) (by unfold Func.isWrapper; first | (rw [if_pos (by decide +kernel)]; kernel_rfl) | (rw [if_neg (by decide +kernel)]; exact ⟨rfl, rfl⟩))
  (fun c a H b _ => legMatchesReference_lifted c a H b)
theorem legMatchesReference_holds : Rows.LegMatchesReferenceCardSaid :=
 Claim7.holds_tied_plain_at .later [] [.data] true (true, "43ff5d6d438086e88ed6ccc25955440aba0cd482b19469407fb38ba16744b6d5") false
  legMatchesReference_row (fun _ h => by cases h) (by kernel_rfl) (fun _ h => by cases h) legMatchesReference_row_tie rfl ⟨rfl, rfl⟩ (by kernel_rfl) rfl
  (fun f fn hf hfn => by
   obtain rfl : f = 3 := Option.some.inj ((show prog.funcNamed "dialtone/dialtonelaw38.LegMatchesReference" = some 3 by kernel_rfl).symm.trans hf) |>.symm
   obtain rfl : fn = Tryz.f3 := (Option.some.inj (func3.symm.trans hfn)).symm
   exact ⟨by kernel_rfl, fun j t ht => by
    rw [Tryz.params3] at ht
    rcases j with _ | j
    . obtain rfl : t = 28 := by simpa using ht.symm
      exact (show prog.wantsStandIn 28 = false by kernel_rfl)
    rcases j with _ | j
    . obtain rfl : t = 3 := by simpa using ht.symm
      exact (show prog.wantsStandIn 3 = false by kernel_rfl)
    rcases j with _ | j
    . obtain rfl : t = 29 := by simpa using ht.symm
      exact (show prog.wantsStandIn 29 = false by kernel_rfl)
    rcases j with _ | j
    . obtain rfl : t = 33 := by simpa using ht.symm
      exact (show prog.wantsStandIn 33 = false by kernel_rfl)
    rcases j with _ | j
    . obtain rfl : t = 35 := by simpa using ht.symm
      exact (show prog.wantsStandIn 35 = false by kernel_rfl)
    rcases j with _ | j
    . obtain rfl : t = 9 := by simpa using ht.symm
      exact (show prog.wantsStandIn 9 = false by kernel_rfl)
    rcases j with _ | j
    . obtain rfl : t = 3 := by simpa using ht.symm
      exact (show prog.wantsStandIn 3 = false by kernel_rfl)
    rcases j with _ | j
    . obtain rfl : t = 39 := by simpa using ht.symm
      exact (show prog.wantsStandIn 39 = false by kernel_rfl)
    rcases j with _ | j
    . obtain rfl : t = 9 := by simpa using ht.symm
      exact (show prog.wantsStandIn 9 = false by kernel_rfl)
    simp at ht⟩)
  (by kernel_rfl)
#print axioms legMatchesReference_holds
end Go.Proofs.YtnpbhgeffapojaaGreatDoor

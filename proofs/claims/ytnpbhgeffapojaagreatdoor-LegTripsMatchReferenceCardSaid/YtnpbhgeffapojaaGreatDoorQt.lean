/- The law LegTripsMatchReference: the row and the card. -/
import Derived.Test.YtnpbhgeffapojaaGreatDoorKI
set_option linter.all false
set_option maxRecDepth 100000
namespace Go.Proofs.YtnpbhgeffapojaaGreatDoor
open Go.Proofs.Tryz
open Go.Vai Go Go.Proofs
theorem in37_ev (n a b : Int) : Ev prog 153 [I n, I a, I b] (B (decide (a <= n /\ n <= b))) := by
 refine EV func153 ?_
 simp -implicitDefEqProofs (disch := omega) only [go_sem, ntmps153]
 refine Jab (fun c => ?_) (fun c => ?_)
 . simp -implicitDefEqProofs (disch := omega) only [go_sem, c, results153]
   try simp [c]
 . simp -implicitDefEqProofs (disch := omega) only [go_sem, c, results153]
   try simp [c]
theorem zone37_ev (z : Int) : Ev prog 154 [I z] (B (Jbr z)) := by
 refine EV func154 ?_
 simp -implicitDefEqProofs (disch := omega) only [go_sem, ntmps154]
 refine Jaa (in37_ev z (-50400) 50400) ?_
 simp -implicitDefEqProofs (disch := omega) only [go_sem, results154]; try rfl
theorem spell37_ev (a b : Int) (h : JcT a b = true) : Ev prog 155 [SP2 a b] (B true) := by
 obtain ⟨c, d, e⟩ := JdU.1 h
 refine EV func155 ?_
 simp -implicitDefEqProofs (disch := omega) only [go_sem, ntmps155]
 refine Ja1 c ?_
 simp -implicitDefEqProofs (disch := omega) only [go_sem]
 refine Ja1 d ?_
 simp -implicitDefEqProofs (disch := omega) only [go_sem, results155, decide_eq_true e]
theorem on37_ev (x : Tf) (d s : Int) (h : JaV x = true) (T : 0 <= d /\ d < 7) (V : 0 <= s /\ s < 86400) : Ev prog 188 [TF x, I d, I s] (I (JcD x (d * 86400 + s))) := by
 obtain ⟨⟨P, R, S⟩, G⟩ := Ja6.1 h
 have o : JcD x (d * 86400 + s) = (match (x.l.drop 0).find? (hitR (d * 86400 + s)) with | some r => r.p | none => x.b) := rfl
 have K : ∀ r, hitR (d * 86400 + s) r = decide (r.d / 2 ^ d.toNat % 2 = 1 /\ r.f <= s /\ s < r.t) := fun r => by
  unfold hitR
  rw [show (d * 86400 + s) / 86400 = d by omega, show (d * 86400 + s) % 86400 = s by omega]
 generalize hitR (d * 86400 + s) = Q at *; generalize JcD x (d * 86400 + s) = z at *
 have H : ∀ r, Jjv r = true -> (r.d.fdiv (2 ^ min d.toNat 64)).tmod 2 = r.d / 2 ^ d.toNat % 2 := fun r o => by
  have B := Jbl.1 o
  rw [L0P (by omega), L1K _ (Int.le_of_lt (Int.pow_pos (by omega))), L11 (L1k (by omega) (Int.le_of_lt (Int.pow_pos (by omega))))]
 obtain ⟨a, w⟩ := x
 simp only at *
 refine EV func188 ?_
 simp -implicitDefEqProofs (disch := omega) only [go_sem, ntmps188]
 refine Jag (fun k E D => ∃ i : Nat, i + k = a.length /\ z = (match (a.drop i).find? Q with | some r => r.p | none => w) /\ E 1 = I d /\ E 2 = I s /\ E 3 = .ptr 396361776 2 0 0 /\ E 7 = I i /\ D 396361776 = some ⟨96, 2, [.agg [TS a, I w]]⟩) a.length ⟨0, by omega, o, ?_⟩ ?_
 . simp -implicitDefEqProofs (disch := omega) only [go_sem]; try rfl
 rintro k E D ⟨i, U, q, g, j, c, m, e⟩
 simp -implicitDefEqProofs (disch := omega) only [go_sem, g, j, c, m, e]
 refine Jab (fun J => ?_) (fun J => ?_)
 . have C : i < a.length := by omega
   have B := G _ (Jan a i C); have u := H _ B; rw [Jaz a i C, L2e, K] at q; generalize o : gd a i = r at *; obtain ⟨L, M, O, N⟩ := r
   simp only at *
   simp -implicitDefEqProofs (disch := omega) only [go_sem, g, j, c, m, e, o, u]
   have n : decide (L / 2 ^ d.toNat % 2 = 1 /\ M <= s /\ s < O) = false -> z = (match (a.drop (i + 1)).find? Q with | some r => r.p | none => w) := fun F => by rw [F] at q; exact q
   refine Jab (fun v => ?_) (fun v => ?_)
   . simp -implicitDefEqProofs (disch := omega) only [go_sem, g, j, c, m, e, o, u, v]
     refine Jab (fun y => ?_) (fun y => ?_)
     . simp -implicitDefEqProofs (disch := omega) only [go_sem, g, j, c, m, e, o, u, v]
       refine Jab (fun A => ?_) (fun A => ?_)
       . rw [decide_eq_true ⟨v, y, A⟩] at q
         have q : z = N := q
         simp -implicitDefEqProofs (disch := omega) only [go_sem, g, j, c, m, e, o, u, q, results188]
       . simp -implicitDefEqProofs (disch := omega) only [go_sem, g, j, c, m, e, o]
         refine Jad (a.length - (i + 1)) (by omega) ⟨i + 1, by omega, n (decide_eq_false fun h => A h.2.2), ?_⟩
         simp -implicitDefEqProofs (disch := omega) only [go_sem, g, j, c, m, e]; try rfl
     . simp -implicitDefEqProofs (disch := omega) only [go_sem, g, j, c, m, e, o]
       refine Jad (a.length - (i + 1)) (by omega) ⟨i + 1, by omega, n (decide_eq_false fun h => y h.2.1), ?_⟩
       simp -implicitDefEqProofs (disch := omega) only [go_sem, g, j, c, m, e]; try rfl
   . simp -implicitDefEqProofs (disch := omega) only [go_sem, g, j, c, m, e, o]
     refine Jad (a.length - (i + 1)) (by omega) ⟨i + 1, by omega, n (decide_eq_false fun h => v h.1), ?_⟩
     simp -implicitDefEqProofs (disch := omega) only [go_sem, g, j, c, m, e]; try rfl
 . obtain rfl : i = a.length := by omega
   rw [L0C] at q
   have q : z = w := q
   simp -implicitDefEqProofs (disch := omega) only [go_sem, c, e, q, results188]
set_option maxHeartbeats 2000000 in
theorem validR37_ev (x : Tf) (h : JaV x = true) : Ev prog 112 [TF x] (B true) := by
 obtain ⟨⟨o, p, A⟩, q⟩ := Ja6.1 h
 obtain ⟨d, f⟩ := x
 simp only at *
 refine EV func112 ?_
 simp -implicitDefEqProofs (disch := omega) only [go_sem, ntmps112]
 refine Jaa (in37_ev f 0 1000000) ?_
 rw [decide_eq_true ⟨o, p⟩]; simp -implicitDefEqProofs (disch := omega) only [go_sem]
 refine Jal (by omega) ?_
 simp -implicitDefEqProofs (disch := omega) only [go_sem]
 refine Jag (fun k E g => ∃ i : Nat, i + k = d.length /\ E 1 = .ptr 236978192 2 0 0 /\ E 3 = I i /\ g 236978192 = some ⟨96, 2, [.agg [TS d, I f]]⟩) d.length ⟨0, by omega, ?_⟩ ?_
 . simp -implicitDefEqProofs (disch := omega) only [go_sem]; try rfl
 rintro k E g ⟨i, C, a, b, c⟩
 simp -implicitDefEqProofs (disch := omega) only [go_sem, a, b, c]
 refine Jab (fun s => ?_) (fun s => ?_)
 . have t : i < d.length := by omega
   obtain ⟨j, l, w, y, z, m, n⟩ := Jbl.1 (q _ (Jan d i t))
   generalize e : gd d i = r at *; obtain ⟨u, D, F, v⟩ := r
   simp only at *
   simp -implicitDefEqProofs (disch := omega) only [go_sem, a, b, c, e]
   refine Jaa (in37_ev u 1 127) ?_
   rw [decide_eq_true ⟨j, l⟩]; simp -implicitDefEqProofs (disch := omega) only [go_sem, a, b, c, e]
   iterate 3
    refine Jal (by omega) ?_
    simp -implicitDefEqProofs (disch := omega) only [go_sem, a, b, c, e]
   refine Jaa (in37_ev v 0 1000000) ?_
   rw [decide_eq_true ⟨m, n⟩]; simp -implicitDefEqProofs (disch := omega) only [go_sem, a, b, c, e]
   refine Jad (d.length - (i + 1)) (by omega) ⟨i + 1, by omega, ?_⟩
   simp -implicitDefEqProofs (disch := omega) only [go_sem, a, b, c]; try rfl
 . obtain rfl : i = d.length := by omega
   simp -implicitDefEqProofs (disch := omega) only [go_sem, results112]
theorem good37_ev (x : Tf) (z a b : Int) (h : JaV x = true) (g : Jbr z = true) (f : JcT a b = true) : Ev prog 113 [TF x, I z, SP2 a b] (B true) := by
 have d := validR37_ev x h; have c := zone37_ev z; have e := spell37_ev a b f; rw [g] at c
 refine EV func113 ?_
 simp -implicitDefEqProofs (disch := omega) only [go_sem, ntmps113]
 iterate 2
  first | refine Jaa d ?_ | refine Jaa c ?_
  simp -implicitDefEqProofs (disch := omega) only [go_sem]
 refine Jaa e ?_
 simp -implicitDefEqProofs (disch := omega) only [go_sem, results113]
def bentF (t : Tp) (a b c : Int) : Tp :=
 if 6 <= Jaf a 12 /\ 0 < t.legs.length then
  { t with legs := (
   if Jaf a 12 = 6 then t.legs.set (Jaf c t.legs.length).toNat { gd t.legs (Jaf c t.legs.length).toNat with f := b }
   else if Jaf a 12 = 7 then t.legs.set (Jaf c t.legs.length).toNat { gd t.legs (Jaf c t.legs.length).toNat with t := b }
   else if Jaf a 12 = 8 then t.legs.set (Jaf c t.legs.length).toNat { gd t.legs (Jaf c t.legs.length).toNat with g := ⟨b, (gd t.legs (Jaf c t.legs.length).toNat).g.e⟩ }
   else if Jaf a 12 = 9 then t.legs.set (Jaf c t.legs.length).toNat { gd t.legs (Jaf c t.legs.length).toNat with g := ⟨(gd t.legs (Jaf c t.legs.length).toNat).g.b, b⟩ }
   else if Jaf a 12 = 10 then t.legs.set (Jaf c t.legs.length).toNat { gd t.legs (Jaf c t.legs.length).toNat with k := ⟨(gd t.legs (Jaf c t.legs.length).toNat).k.b, b⟩ }
   else t.legs ++ [gd t.legs (Jaf c t.legs.length).toNat]) }
 else if Jaf a 12 = 0 then { t with hops := t.hops.set (Jaf c t.hops.length).toNat (b, (gd t.hops (Jaf c t.hops.length).toNat).2) }
 else if Jaf a 12 = 1 then { t with hops := t.hops.set (Jaf c t.hops.length).toNat ((gd t.hops (Jaf c t.hops.length).toNat).1, b) }
 else if Jaf a 12 = 2 then { t with offs := t.offs.set (Jaf c 8).toNat b }
 else if Jaf a 12 = 3 then { t with key := keyF (1 + Jaf b 7) }
 else if Jaf a 12 = 4 then { t with ups := t.ups.take (Jaf c t.ups.length).toNat }
 else { t with cks := t.cks.take 7 }
@[go_sem] theorem append_HPP0 (l : List (Int × Int)) : ([] : List AV) ++ l.map HPP = l.map HPP := L1C _
@[go_sem] theorem set_HPP (l : List (Int × Int)) (n : Nat) (a b : Int) : (l.map HPP).set n (.agg [.v (.int .i64 a), .v (.int .i64 b)]) = (l.set n (a, b)).map HPP := by rw [List.map_set]
@[go_sem] theorem set_LGP (l : List Lg) (n : Nat) (a b c d e f : Int) : (l.map LGP).set n (.agg [.v (.int .i64 a), .v (.int .i64 b), .v (.int .i64 c), .v (.int .i64 d), .v (.int .i64 e), .v (.int .i64 f)]) = (l.set n (⟨a, b, ⟨c, d⟩, ⟨e, f⟩⟩ : Lg)).map LGP := by rw [List.map_set]
@[go_sem] theorem append_LGPb (l : List Lg) (a b c d e f : Int) : l.map LGP ++ [.agg [.v (.int .i64 a), .v (.int .i64 b), .v (.int .i64 c), .v (.int .i64 d), .v (.int .i64 e), .v (.int .i64 f)]] = (l ++ [(⟨a, b, ⟨c, d⟩, ⟨e, f⟩⟩ : Lg)]).map LGP := by simp
set_option maxHeartbeats 8000000 in
theorem bent_ev (t : Tp) (a b c : Int) (ht : t.ok) (h : Jb3 t = true) (ha : R64 a) (hb : R64 b) (hc : R64 c) : Ev prog 14 [TPP t, I a, I b, I c] (TPP (bentF t a b c)) := by
  obtain ⟨_, ⟨hh, hl, hcl, htl, hol, hul⟩, _⟩ := JaK.1 h
  have hu : 0 < t.ups.length := by have := JiV h (i := 0) (by omega); omega
  have d1 := Jav c t.hops.length hc (by omega)
  have p1 := Jai (c := c) (n := t.hops.length) (by omega)
  have d2 := Jav a 12 ha (by omega)
  have p2 := Jai (c := a) (n := 12) (by omega)
  have d3 := fun (h : 0 < t.legs.length) => Jav c t.legs.length hc (by omega)
  have p3 := fun (h : 0 < t.legs.length) => Jai (c := c) (n := t.legs.length) (by omega)
  have d4 := Jav c 8 hc (by omega)
  have p4 := Jai (c := c) (n := 8) (by omega)
  have d5 := Jav b 7 hb (by omega)
  have p5 := Jai (c := b) (n := 7) (by omega)
  have d6 := JoX (1 + Jaf b 7) (by omega)
  have d7 := Jav c t.ups.length hc (by omega)
  have p7 := Jai (c := c) (n := t.ups.length) (by omega)
  have hT := (rfl : bentF t a b c = bentF t a b c)
  conv at hT => rhs; unfold bentF
  generalize bentF t a b c = T at *; generalize Jaf a 12 = k at *; generalize Jaf c t.hops.length = i1 at *; generalize Jaf c t.legs.length = j at *; generalize Jaf c 8 = o at *; generalize Jaf c t.ups.length = u at *; generalize Jaf b 7 = q at *
  obtain ⟨hops, legs, cks, tfs, offs, key, ⟨⟨pc, pn, pr, ps⟩, pl⟩, call, ups⟩ := t
  simp only at *
  clear h
  have hi : i1.toNat < hops.length := by omega
  have ho : o.toNat < offs.length := by omega
  have hu2 : u.toNat < ups.length := by omega
  have q1 : ∀ n x, (legs.set n x).take legs.length = legs.set n x := fun n x => L0b (by rw [L24]; exact L0a _)
  have q2 : ∀ n x, (hops.set n x).take hops.length = hops.set n x := fun n x => L0b (by rw [L24]; exact L0a _)
  have q3 : ∀ n x, (offs.set n x).take offs.length = offs.set n x := fun n x => L0b (by rw [L24]; exact L0a _)
  refine EW [20, 33] func14 ?_
  simp -implicitDefEqProofs (disch := omega) only [go_sem, ntmps14, false_and, and_self]
  iterate 2
   first | refine Jaa d1 ?_ | refine Jaa d2 ?_
   simp -implicitDefEqProofs (disch := omega) only [go_sem, false_and, and_self]
  refine Jab (fun g1 => ?_) (fun g1 => ?_)
  . simp -implicitDefEqProofs (disch := omega) only [go_sem, false_and, and_self]
    refine Jab (fun g2 => ?_) (fun g2 => ?_)
    . have hl0 : 0 < legs.length := by omega
      rw [if_pos ⟨g1, hl0⟩] at hT; have pj := p3 hl0
      have hj : j.toNat < legs.length := by omega
      simp -implicitDefEqProofs (disch := omega) only [go_sem, false_and, and_self]
      refine Jaa (d3 hl0) ?_
      simp -implicitDefEqProofs (disch := omega) only [go_sem, false_and, and_self]
      refine Jab (fun e6 => ?_) (fun e6 => ?_)
      . rw [if_pos e6] at hT; simp -implicitDefEqProofs (disch := omega) only [go_sem, false_and, and_self]
        refine Jap Plain.mono [31457472, 31457552, 31457632] ?_
        simp -implicitDefEqProofs (disch := omega) only [go_sem, false_and, and_self, hT, L24, L07, q1, q2, q3, results14]; try rfl
      . rw [if_neg e6] at hT; simp -implicitDefEqProofs (disch := omega) only [go_sem, false_and, and_self]
        refine Jab (fun e7 => ?_) (fun e7 => ?_)
        . rw [if_pos e7] at hT; simp -implicitDefEqProofs (disch := omega) only [go_sem, false_and, and_self]
          refine Jap Plain.mono [31457472, 31457552, 31457632] ?_
          simp -implicitDefEqProofs (disch := omega) only [go_sem, false_and, and_self, hT, L24, L07, q1, q2, q3, results14]; try rfl
        . rw [if_neg e7] at hT; simp -implicitDefEqProofs (disch := omega) only [go_sem, false_and, and_self]
          refine Jab (fun e8 => ?_) (fun e8 => ?_)
          . rw [if_pos e8] at hT; simp -implicitDefEqProofs (disch := omega) only [go_sem, false_and, and_self]
            refine Jap Plain.mono [31457472, 31457552, 31457632] ?_
            simp -implicitDefEqProofs (disch := omega) only [go_sem, false_and, and_self, hT, L24, L07, q1, q2, q3, results14]; try rfl
          . rw [if_neg e8] at hT; simp -implicitDefEqProofs (disch := omega) only [go_sem, false_and, and_self]
            refine Jab (fun e9 => ?_) (fun e9 => ?_)
            . rw [if_pos e9] at hT; simp -implicitDefEqProofs (disch := omega) only [go_sem, false_and, and_self]
              refine Jap Plain.mono [31457472, 31457552, 31457632] ?_
              simp -implicitDefEqProofs (disch := omega) only [go_sem, false_and, and_self, hT, L24, L07, q1, q2, q3, results14]; try rfl
            . rw [if_neg e9] at hT; simp -implicitDefEqProofs (disch := omega) only [go_sem, false_and, and_self]
              refine Jab (fun e10 => ?_) (fun e10 => ?_)
              . rw [if_pos e10] at hT; simp -implicitDefEqProofs (disch := omega) only [go_sem, false_and, and_self]
                refine Jap Plain.mono [31457472, 31457552, 31457632] ?_
                simp -implicitDefEqProofs (disch := omega) only [go_sem, false_and, and_self, hT, L24, L07, q1, q2, q3, results14]; try rfl
              . rw [if_neg e10] at hT; simp -implicitDefEqProofs (disch := omega) only [go_sem, false_and, and_self]
                refine Jap Plain.mono [31457472, 31457552, 31457632] ?_
                simp -implicitDefEqProofs (disch := omega) only [go_sem, false_and, and_self, hT, L24, L07, q1, q2, q3, results14]; try rfl
    . rw [if_neg (fun h => g2 (by omega)), if_neg (by omega), if_neg (by omega), if_neg (by omega), if_neg (by omega), if_neg (by omega)] at hT
      simp -implicitDefEqProofs (disch := omega) only [go_sem, false_and, and_self]
      iterate 5
       refine Jal (by omega) ?_
       simp -implicitDefEqProofs (disch := omega) only [go_sem, false_and, and_self]
      refine Jap Plain.mono [31457472, 31457552, 31457632] ?_
      simp -implicitDefEqProofs (disch := omega) only [go_sem, false_and, and_self, hT, L24, L07, q1, q2, q3, results14]; try rfl
  . rw [if_neg (fun h => g1 h.1)] at hT
    simp -implicitDefEqProofs (disch := omega) only [go_sem, false_and, and_self]
    refine Jab (fun e0 => ?_) (fun e0 => ?_)
    . rw [if_pos e0] at hT; simp -implicitDefEqProofs (disch := omega) only [go_sem, false_and, and_self]
      refine Jap Plain.mono [31457472, 31457552, 31457632] ?_
      simp -implicitDefEqProofs (disch := omega) only [go_sem, false_and, and_self, hT, L24, L07, q1, q2, q3, results14]; try rfl
    . rw [if_neg e0] at hT; simp -implicitDefEqProofs (disch := omega) only [go_sem, false_and, and_self]
      refine Jab (fun e1 => ?_) (fun e1 => ?_)
      . rw [if_pos e1] at hT; simp -implicitDefEqProofs (disch := omega) only [go_sem, false_and, and_self]
        refine Jap Plain.mono [31457472, 31457552, 31457632] ?_
        simp -implicitDefEqProofs (disch := omega) only [go_sem, false_and, and_self, hT, L24, L07, q1, q2, q3, results14]; try rfl
      . rw [if_neg e1] at hT; simp -implicitDefEqProofs (disch := omega) only [go_sem, false_and, and_self]
        refine Jab (fun e2 => ?_) (fun e2 => ?_)
        . rw [if_pos e2] at hT; simp -implicitDefEqProofs (disch := omega) only [go_sem, false_and, and_self]
          refine Jaa d4 ?_
          simp -implicitDefEqProofs (disch := omega) only [go_sem, false_and, and_self]
          refine Jap Plain.mono [31457472, 31457552, 31457632] ?_
          simp -implicitDefEqProofs (disch := omega) only [go_sem, false_and, and_self, hT, L24, L07, q1, q2, q3, results14]; try rfl
        . rw [if_neg e2] at hT; simp -implicitDefEqProofs (disch := omega) only [go_sem, false_and, and_self]
          refine Jab (fun e3 => ?_) (fun e3 => ?_)
          . rw [if_pos e3] at hT; simp -implicitDefEqProofs (disch := omega) only [go_sem, false_and, and_self]
            iterate 2
             first | refine Jaa d5 ?_ | refine Jaa d6 ?_
             simp -implicitDefEqProofs (disch := omega) only [go_sem, false_and, and_self]
            refine Jap Plain.mono [31457472, 31457552, 31457632] ?_
            simp -implicitDefEqProofs (disch := omega) only [go_sem, false_and, and_self, hT, L24, L07, q1, q2, q3, results14]; try rfl
          . rw [if_neg e3] at hT; simp -implicitDefEqProofs (disch := omega) only [go_sem, false_and, and_self]
            refine Jab (fun e4 => ?_) (fun e4 => ?_)
            . rw [if_pos e4] at hT; simp -implicitDefEqProofs (disch := omega) only [go_sem, false_and, and_self]
              refine Jaa d7 ?_
              simp -implicitDefEqProofs (disch := omega) only [go_sem, false_and, and_self]
              refine Jap Plain.mono [31457472, 31457552, 31457632] ?_
              simp -implicitDefEqProofs (disch := omega) only [go_sem, false_and, and_self, hT, L24, L07, q1, q2, q3, results14]; try rfl
            . rw [if_neg e4] at hT; simp -implicitDefEqProofs (disch := omega) only [go_sem, false_and, and_self]
              refine Jap Plain.mono [31457472, 31457552, 31457632] ?_
              simp -implicitDefEqProofs (disch := omega) only [go_sem, false_and, and_self, hT, L24, L07, q1, q2, q3, results14]; try rfl
set_option maxHeartbeats 16000000 in
theorem tripR_ev (t : Tp) (ht : t.ok) : Ev prog 67 [TPP t] (B (Jb3 t)) := by
 obtain ⟨o1, o2, o3, o4, o5, o6, o7, o8, o9⟩ := ht; have O := Jjg t.key t.part o1
 have c : Jb3 t = (Jbd t.key t.part && (decide ((1 <= t.hops.length /\ t.hops.length <= 12) /\ t.legs.length = t.hops.length - 1 /\ t.cks.length = 8 /\ t.tfs.length = 8 /\ t.offs.length = 8 /\ t.ups.length <= 30) &&
  (t.cks.all Jbe && (t.tfs.all JaV && (t.offs.all Jbr && (Jdo t.ups.length (-1, 0) t.hops && JcB t.hops 0 t.legs)))))) := rfl
 rw [Bool.and_left_comm] at c; generalize Jb3 t = z at *; generalize Jbd t.key t.part = g at *
 obtain ⟨a, d, k, p, j, H, ⟨⟨pc, pn, pr, ps⟩, pl⟩, v, u⟩ := t
 simp only at *
 clear o1
 refine EV func67 ?_
 simp -implicitDefEqProofs (disch := omega) only [go_sem, ntmps67]
 refine Jaa (JfH a.length 1 12) ?_
 by_cases Q : 1 <= (a.length : Int) /\ (a.length : Int) <= 12
 rotate_left
 . rw [decide_eq_false (by omega), L04] at c
   rw [decide_eq_false Q]; subst c; simp -implicitDefEqProofs (disch := omega) only [go_sem, results67]
 rw [decide_eq_true Q]; simp -implicitDefEqProofs (disch := omega) only [go_sem]
 refine Jab (fun R => ?_) (fun R => ?_)
 . rw [decide_eq_false (by omega), L04] at c
   subst c; simp -implicitDefEqProofs (disch := omega) only [go_sem, R, results67]
 simp -implicitDefEqProofs (disch := omega) only [go_sem]
 refine Jab (fun T => ?_) (fun T => ?_)
 . rw [decide_eq_false (by omega), L04] at c
   subst c; simp -implicitDefEqProofs (disch := omega) only [go_sem, T, results67]
 simp -implicitDefEqProofs (disch := omega) only [go_sem]
 refine Jab (fun U => ?_) (fun U => ?_)
 . rw [decide_eq_false (by omega), L04] at c
   subst c; simp -implicitDefEqProofs (disch := omega) only [go_sem, U, results67]
 simp -implicitDefEqProofs (disch := omega) only [go_sem]
 refine Jab (fun V => ?_) (fun V => ?_)
 . rw [decide_eq_false (by omega), L04] at c
   subst c; simp -implicitDefEqProofs (disch := omega) only [go_sem, V, results67]
 simp -implicitDefEqProofs (disch := omega) only [go_sem]
 refine Jab (fun W => ?_) (fun W => ?_)
 . rw [decide_eq_false (by omega), L04] at c
   subst c; simp -implicitDefEqProofs (disch := omega) only [go_sem, W, results67]
 simp -implicitDefEqProofs (disch := omega) only [go_sem]
 rw [decide_eq_true (by omega), L0d] at c
 refine Jaa O ?_
 cases g with
 | false =>
  rw [L04] at c; subst c; simp -implicitDefEqProofs (disch := omega) only [go_sem, results67]
 | true =>
 rw [L0d] at c; simp -implicitDefEqProofs (disch := omega) only [go_sem]
 have ac : k.length = 8 := by omega
 have ai : p.length = 8 := by omega
 have ah : j.length = 8 := by omega
 have ag : d.length + 1 = a.length := by omega
 clear O Q R T U V W
 refine Jag (fun n E y => ∃ (i : Nat), i + n = 8 /\ z = ((k.drop i).all Jbe && ((p.drop i).all JaV && ((j.drop i).all Jbr && (Jdo u.length (-1, 0) a && JcB a 0 d)))) /\ E 1 = .ptr 142606352 13 0 0 /\ E 3 = I i /\
  y 142606352 = some ⟨52, 13, [.agg [HPS a, LGS d, CKS k, TFS p, SL j, Str H, I pc, I pn, Str pr, Str ps, ITS pl, Str v, SLs u]]⟩) 8 ⟨0, by omega, c, ?_⟩ ?_
 . simp -implicitDefEqProofs (disch := omega) only [go_sem]; try rfl
 clear c
 rintro n E y ⟨i, S, c, e, A, f⟩
 simp -implicitDefEqProofs (disch := omega) only [go_sem, e, A, f]
 refine Jab (fun F => ?_) (fun F => ?_)
 . have i1 : i < k.length := by omega
   have i2 : i < p.length := by omega
   have i3 : i < j.length := by omega
   have O := Jgr (gd k i) (o2 _ (Jan _ _ i1)); have c2 := validR37_ev (gd p i) (o3 _ (Jan _ _ i2)); have P := JfH (gd j i) (-50400) 50400
   have hz : decide (-50400 <= gd j i /\ gd j i <= 50400) = Jbr (gd j i) := rfl
   rw [hz] at P; rw [Jaz k i i1, Jaz p i i2, Jaz j i i3, L1V, L1V, L1V, o3 _ (Jan _ _ i2), L0d] at c; simp -implicitDefEqProofs (disch := omega) only [go_sem, e, A, f]
   refine Jaa O ?_
   cases hb1 : Jbe (gd k i) with
   | false =>
    rw [hb1, L04, L04] at c; subst c; simp -implicitDefEqProofs (disch := omega) only [go_sem, e, A, f, results67]
   | true =>
   rw [hb1, L0d] at c; simp -implicitDefEqProofs (disch := omega) only [go_sem, e, A, f]
   refine Jaa c2 ?_
   simp -implicitDefEqProofs (disch := omega) only [go_sem, e, A, f]
   refine Jaa P ?_
   cases hb3 : Jbr (gd j i) with
   | false =>
    rw [hb3, L04, L04, L1A, L1A] at c; subst c; simp -implicitDefEqProofs (disch := omega) only [go_sem, e, A, f, results67]
   | true =>
   rw [hb3, L0d] at c; simp -implicitDefEqProofs (disch := omega) only [go_sem, e, A, f]
   refine Jad (8 - (i + 1)) (by omega) ⟨i + 1, by omega, c, ?_⟩
   simp -implicitDefEqProofs (disch := omega) only [go_sem, e, A, f]; try rfl
 have Y : i = 8 := by omega
 rw [List.drop_eq_nil_of_le (by omega), List.drop_eq_nil_of_le (by omega), List.drop_eq_nil_of_le (by omega), List.all_nil, List.all_nil, List.all_nil, L0d, L0d, L0d] at c
 clear Y S F; simp -implicitDefEqProofs (disch := omega) only [go_sem, e, f]
 refine Jag (fun n E y => ∃ (i : Nat) (r : Int × Int), i + n = a.length /\ z = (Jdo u.length r (a.drop i) && JcB a 0 d) /\ 0 <= r.2 /\ (i = 0 -> r = (-1, 0)) /\ (0 < i -> r = gd a (i - 1)) /\ E 1 = .ptr 142606352 13 0 0 /\ E 4 = I i /\
  y 142606352 = some ⟨52, 13, [.agg [HPS a, LGS d, CKS k, TFS p, SL j, Str H, I pc, I pn, Str pr, Str ps, ITS pl, Str v, SLs u]]⟩) a.length ⟨0, (-1, 0), by omega, c, L1M _, fun _ => rfl, fun h => absurd h (by omega), ?_⟩ ?_
 . simp -implicitDefEqProofs (disch := omega) only [go_sem, e, f]; try rfl
 clear c e A f E y n i
 rintro n E y ⟨i, ⟨la, lb⟩, S, c, af, K, L, e, m, f⟩
 simp -implicitDefEqProofs (disch := omega) only [go_sem, e, m, f]
 refine Jab (fun F => ?_) (fun F => ?_)
 . have G : i < a.length := by omega
   rw [Jaz a i G, Jdo, L1t] at c; generalize q : gd a i = h at *; obtain ⟨C, D⟩ := h
   simp only at *
   simp -implicitDefEqProofs (disch := omega) only [go_sem, q, e, m, f]
   refine Jaa (JfH C 0 7) ?_
   by_cases N : 0 <= C /\ C <= 7
   rotate_left
   . rw [decide_eq_false (by omega), L04] at c
     rw [decide_eq_false N]; subst c; simp -implicitDefEqProofs (disch := omega) only [go_sem, q, e, m, f, results67]
   rw [decide_eq_true N]; simp -implicitDefEqProofs (disch := omega) only [go_sem, q, e, m, f]
   refine Jaa (JfH D 0 29) ?_
   by_cases q3 : 0 <= D /\ D <= 29
   rotate_left
   . rw [decide_eq_false (by omega), L04] at c
     rw [decide_eq_false q3]; subst c; simp -implicitDefEqProofs (disch := omega) only [go_sem, q, e, m, f, results67]
   rw [decide_eq_true q3]; simp -implicitDefEqProofs (disch := omega) only [go_sem, q, e, m, f]
   refine Jab (fun q4 => ?_) (fun q4 => ?_)
   . rw [decide_eq_false (by omega), L04] at c
     subst c; simp -implicitDefEqProofs (disch := omega) only [go_sem, q, q4, e, m, f, results67]
   simp -implicitDefEqProofs (disch := omega) only [go_sem, q, e, m, f]
   have w : C ≠ la -> lb <= D -> z = (Jdo u.length (C, D) (a.drop (i + 1)) && JcB a 0 d) := fun Q R => by
    rw [decide_eq_true (by omega), L0d] at c; exact c
   have J : ∀ h : 0 < i + 1, (C, D) = gd a (i + 1 - 1) := fun _ => by rw [L0W, q]
   have Z : ((i : Int) - 1).toNat = i - 1 := by omega
   refine Jab (fun q5 => ?_) (fun q5 => ?_)
   . have ae : i - 1 < a.length := by omega
     have X : gd a (i - 1) = (la, lb) := (L (by omega)).symm
     simp -implicitDefEqProofs (disch := omega) only [go_sem, q, e, m, f, Z, X]
     refine Jab (fun q6 => ?_) (fun q6 => ?_)
     . rw [decide_eq_false (by omega), L04] at c
       subst c; simp -implicitDefEqProofs (disch := omega) only [go_sem, q, q6, e, m, f, results67]
     simp -implicitDefEqProofs (disch := omega) only [go_sem, q, e, m, f, Z, X]
     refine Jab (fun q7 => ?_) (fun q7 => ?_)
     . rw [decide_eq_false (by omega), L04] at c
       subst c; simp -implicitDefEqProofs (disch := omega) only [go_sem, q, q7, e, m, f, results67]
     simp -implicitDefEqProofs (disch := omega) only [go_sem, q, e, m, f, Z, X]
     refine Jad (a.length - (i + 1)) (by omega) ⟨i + 1, (C, D), by omega, w q6 (by omega), q3.1, fun h => absurd h (by omega), J, ?_⟩
     simp -implicitDefEqProofs (disch := omega) only [go_sem, q, e, m, f]; try rfl
   . have h0 : i = 0 := by omega
     have aa := K h0; simp only [Prod.mk.injEq] at aa; simp -implicitDefEqProofs (disch := omega) only [go_sem, q, e, m, f]
     refine Jad (a.length - (i + 1)) (by omega) ⟨i + 1, (C, D), by omega, w (by omega) (by omega), q3.1, fun h => absurd h (by omega), J, ?_⟩
     simp -implicitDefEqProofs (disch := omega) only [go_sem, q, e, m, f]; try rfl
 obtain rfl : i = a.length := by omega
 rw [L0C, Jdo, L0d] at c; simp -implicitDefEqProofs (disch := omega) only [go_sem, e, f]; clear K L F S
 have M : z = JcB a 0 (d.drop 0) := c
 refine Jag (fun n E y => ∃ (i : Nat), i + n = d.length /\ z = JcB a i (d.drop i) /\ E 1 = .ptr 142606352 13 0 0 /\ E 6 = I i /\
  y 142606352 = some ⟨52, 13, [.agg [HPS a, LGS d, CKS k, TFS p, SL j, Str H, I pc, I pn, Str pr, Str ps, ITS pl, Str v, SLs u]]⟩) d.length ⟨0, by omega, M, ?_⟩ ?_
 . simp -implicitDefEqProofs (disch := omega) only [go_sem, e, f]; try rfl
 clear c M e m f E y n
 rintro n E y ⟨i, S, c, e, x, f⟩
 simp -implicitDefEqProofs (disch := omega) only [go_sem, e, x, f]
 refine Jab (fun F => ?_) (fun F => ?_)
 . have G : i < d.length := by omega
   have ad : i + 1 < a.length := by omega
   have ab : i < a.length := by omega
   rw [Jaz d i G, JcB, L1t] at c; have P := Jiy (gd d i); generalize o : gd d i = l at *; generalize legF l = b at *; obtain ⟨lf, lt, lg, lk⟩ := l
   simp only at *
   simp -implicitDefEqProofs (disch := omega) only [go_sem, o, e, x, f]
   refine Jaa P ?_
   cases b with
   | false =>
    rw [L04] at c; subst c; simp -implicitDefEqProofs (disch := omega) only [go_sem, o, e, x, f, results67]
   | true =>
   rw [L0d] at c
   have s : ((i : Int) + 1).toNat = i + 1 := by omega
   simp -implicitDefEqProofs (disch := omega) only [go_sem, o, e, x, f, s]
   refine Jab (fun N => ?_) (fun N => ?_)
   . rw [decide_eq_false (by omega), L04] at c
     subst c; simp -implicitDefEqProofs (disch := omega) only [go_sem, o, N, e, x, f, s, results67]
   simp -implicitDefEqProofs (disch := omega) only [go_sem, o, e, x, f, s]
   refine Jab (fun q2 => ?_) (fun q2 => ?_)
   . rw [decide_eq_false (by omega), L04] at c
     subst c; simp -implicitDefEqProofs (disch := omega) only [go_sem, o, q2, e, x, f, s, results67]
   rw [decide_eq_true (by omega), L0d] at c
   simp -implicitDefEqProofs (disch := omega) only [go_sem, o, e, x, f, s]
   refine Jad (d.length - (i + 1)) (by omega) ⟨i + 1, by omega, c, ?_⟩
   simp -implicitDefEqProofs (disch := omega) only [go_sem, o, e, x, f, s]; try rfl
 obtain rfl : i = d.length := by omega
 rw [L0C, JcB] at c; subst c; simp -implicitDefEqProofs (disch := omega) only [go_sem, e, x, f, results67]
set_option maxHeartbeats 4000000 in
theorem payerR_ev (t : Tp) (v : t.ok) (h : Jb3 t = true) (i : Nat) (C : i < t.legs.length) : Ev prog 69 [TPP t, I i] (I (payF t i)) := by
 have D := (JaK.1 h).2.1
 have s := fun i => JiV h (i := i)
 have c : payF t i = if i = 0 then (gd t.hops 0).1
  else if (gd t.hops (i - 1)).2 + 1 < t.ups.length /\ Ja0 (evF t.key t.part) (gd t.ups ((gd t.hops (i - 1)).2 + 1).toNat) t.call = 1 then (gd t.hops (i - 1)).1
  else (gd t.hops i).1 := rfl
 have o := Jjo t.key t.part (gd t.ups ((gd t.hops (i - 1)).2 + 1).toNat) t.call v.part; generalize payF t i = P at *; generalize Ja0 (evF t.key t.part) (gd t.ups ((gd t.hops (i - 1)).2 + 1).toNat) t.call = w at *
 obtain ⟨a, m, p, A, n, z, ⟨⟨F, H, J, K⟩, G⟩, l, k⟩ := t
 simp only at *
 clear h
 refine EV func69 ?_
 simp -implicitDefEqProofs (disch := omega) only [go_sem, ntmps69]
 refine Jab (fun q => ?_) (fun q => ?_)
 . obtain rfl : i = 0 := by omega
   rw [if_pos rfl] at c
   have r : 0 < a.length := by omega
   simp -implicitDefEqProofs (disch := omega) only [go_sem, c, results69]; try rfl
 rw [if_neg (by omega)] at c
 have d : ((i : Int) - 1).toNat = i - 1 := by omega
 have j : i - 1 < a.length := by omega
 have u : i < a.length := by omega
 obtain ⟨L, M, N⟩ := s _ j
 generalize e : gd a i = y at *; generalize b : gd a (i - 1) = x at *; obtain ⟨O, B⟩ := x; obtain ⟨Q, R⟩ := y
 simp only at *
 simp -implicitDefEqProofs (disch := omega) only [go_sem, d, e, b]
 refine Jab (fun g => ?_) (fun g => ?_)
 . have E : (B + 1).toNat < k.length := by omega
   simp -implicitDefEqProofs (disch := omega) only [go_sem, d, e, b]
   refine Jaa o ?_
   simp -implicitDefEqProofs (disch := omega) only [go_sem, d, e, b]
   refine Jab (fun f => ?_) (fun f => ?_)
   . rw [if_pos ⟨g, f⟩] at c; subst c; simp -implicitDefEqProofs (disch := omega) only [go_sem, d, e, b, f, results69]
   . rw [if_neg (fun h => f h.2)] at c
     subst c; simp -implicitDefEqProofs (disch := omega) only [go_sem, d, e, b, f, results69]
 . rw [if_neg (fun h => g h.1)] at c
   subst c; simp -implicitDefEqProofs (disch := omega) only [go_sem, d, e, b, results69]
theorem payR_ev (t : Tp) (n : t.ok) (i : Int) : Ev prog 27 [TPP t, I i] (payV t i) := by
 have f := tripR_ev t n
 have m := JfH i 0 ((t.legs.length : Int) - 1)
 by_cases h : Jb3 t = true
 . rw [h] at f
   by_cases hi : 0 <= i /\ i <= (t.legs.length : Int) - 1
   . have o := payerR_ev t n h i.toNat (by omega)
     rw [L21 hi.1] at o; rw [decide_eq_true hi] at m; unfold payV; rw [if_pos ⟨h, hi⟩]; generalize payF t i.toNat = P at *
     obtain ⟨c, d, g, k, e, j, ⟨⟨p, r, s, u⟩, q⟩, a, l⟩ := t
     simp only at *
     have b := n.legs
     simp only at b
     refine EV func27 ?_
     simp -implicitDefEqProofs (disch := omega) only [go_sem, ntmps27]
     iterate 2
      first | refine Jaa f ?_ | refine Jaa m ?_
      simp -implicitDefEqProofs (disch := omega) only [go_sem]
     refine Jaa o ?_
     simp -implicitDefEqProofs (disch := omega) only [go_sem, results27]
   . rw [decide_eq_false hi] at m; unfold payV
     rw [if_neg (fun h => hi h.2)]
     obtain ⟨c, d, g, k, e, j, ⟨⟨p, r, s, u⟩, q⟩, a, l⟩ := t
     have b := n.legs
     simp only at *
     refine EV func27 ?_
     simp -implicitDefEqProofs (disch := omega) only [go_sem, ntmps27]
     refine Jaa f ?_
     simp -implicitDefEqProofs (disch := omega) only [go_sem]
     refine Jaa m ?_
     simp -implicitDefEqProofs (disch := omega) only [go_sem, results27]
 . have h : Jb3 t = false := by simpa using h
   rw [h] at f; unfold payV
   rw [if_neg (by rw [h]; simp)]
   obtain ⟨c, d, g, k, e, j, ⟨⟨p, r, s, u⟩, q⟩, a, l⟩ := t
   simp only at *
   refine EV func27 ?_
   simp -implicitDefEqProofs (disch := omega) only [go_sem, ntmps27]
   refine Jaa f ?_
   simp -implicitDefEqProofs (disch := omega) only [go_sem, results27]
theorem sameBills_ev (l : List Bl) (j : l.length <= 9223372036854775807) : Ev prog 25 [BLS l, BLS l] (B true) := by
 refine EV func25 ?_
 simp -implicitDefEqProofs (disch := omega) only [go_sem, ntmps25, bne_self_eq_false]
 try (refine Jab (fun h => absurd rfl h) (fun h => ?_); simp -implicitDefEqProofs (disch := omega) only [go_sem, bne_self_eq_false])
 refine Jag (fun k E e => ∃ i : Nat, i + k = l.length /\ E 0 = BLS l /\ E 1 = BLS l /\ E 5 = I i) l.length ⟨0, by omega, ?_⟩ ?_
 . simp -implicitDefEqProofs (disch := omega) only [go_sem]; try rfl
 rintro k E e ⟨i, g, a, b, c⟩
 simp -implicitDefEqProofs (disch := omega) only [go_sem, a, b, c]
 refine Jab (fun d => ?_) (fun d => ?_)
 . have f : i < l.length := by omega
   simp -implicitDefEqProofs (disch := omega) only [go_sem, a, b, c, bne_self_eq_false]
   refine Jal (by simp) ?_
   simp -implicitDefEqProofs (disch := omega) only [go_sem, a, b, c]
   refine Jad (l.length - (i + 1)) (by omega) ⟨i + 1, by omega, ?_⟩
   simp -implicitDefEqProofs (disch := omega) only [go_sem, a, b, c]; try rfl
 . simp -implicitDefEqProofs (disch := omega) only [go_sem, results25]
def insB (o : List Int) (v : Int) : List Int := if gd o (loF o v) = v then o else o.take (loF o v) ++ v :: o.drop (loF o v)
def brdN (o : List Int) : List Rt -> List Int
 | [] => o
 | r :: l => brdN (insB (insB o r.f) r.t) l
def brdF (x : Tf) : List Int := brdN [0, 86400] x.l
structure BrdOK (o : List Int) : Prop where
 asc : o.Pairwise (· < ·)
 inn : ∀ y ∈ o, 0 <= y /\ y <= 86400
 top : (86400 : Int) ∈ o
 bot : (0 : Int) ∈ o
theorem brd0 : BrdOK [0, 86400] := ⟨by decide, by decide, by decide, by decide⟩
theorem asc_le {o : List Int} (h : o.Pairwise (· < ·)) : o.Pairwise (· <= ·) := h.imp fun h => Int.le_of_lt h
theorem gd_of_mem {o : List Int} {v : Int} (h : v ∈ o) : ∃ i, i < o.length /\ gd o i = v := by
 obtain ⟨i, a, e⟩ := List.mem_iff_getElem.1 h
 exact ⟨i, a, by unfold gd; simp [a, e]⟩
theorem lo_lt {o : List Int} (h : BrdOK o) {v : Int} (hv : v <= 86400) : loF o v < o.length := by
 obtain ⟨i, hi, e⟩ := gd_of_mem h.top
 rcases Nat.lt_or_ge (loF o v) o.length with h1 | h1
 . exact h1
 . have := JhC o v i (by omega); omega
theorem lo_ge {o : List Int} (h : BrdOK o) {v : Int} (a : v <= 86400) : v <= gd o (loF o v) := Jl3 o v _ (asc_le h.asc) (L0a _) (lo_lt h a)
theorem ins_mem (o : List Int) (v y : Int) (h : loF o v < o.length) : y ∈ insB o v ↔ y = v \/ y ∈ o := by
 unfold insB
 split
 . rename_i e
   constructor
   . exact .inr
   . rintro (rfl | a)
     . exact e ▸ Jan o _ h
     . exact a
 . rw [L0w, L0i]
   constructor
   . rintro (a | rfl | a)
     . exact .inr (L0G a)
     . exact .inl rfl
     . exact .inr (L18 a)
   . rintro (rfl | a)
     . exact .inr (.inl rfl)
     . rw [<- List.take_append_drop (loF o v) o, L0w] at a
       rcases a with a | a
       . exact .inl a
       . exact .inr (.inr a)
theorem ins_ok {o : List Int} (h : BrdOK o) {v : Int} (h0 : 0 <= v) (h1 : v <= 86400) : BrdOK (insB o v) := by
 have hl := lo_lt h h1; have hg := lo_ge h h1
 refine ⟨?_, fun y hy => ?_, (ins_mem o v _ hl).2 (.inr h.top), (ins_mem o v _ hl).2 (.inr h.bot)⟩
 . unfold insB
   split
   . exact h.asc
   . rename_i hne; have hp := h.asc; rw [<- List.take_append_drop (loF o v) o, List.pairwise_append] at hp; obtain ⟨p1, p2, p3⟩ := hp
     have hlt : ∀ y ∈ o.take (loF o v), y < v := fun y hy => by
      obtain ⟨i, hi, e⟩ := gd_of_mem hy
      rw [L02] at hi
      have := JhC o v i (by omega)
      have e2 : gd (o.take (loF o v)) i = gd o i := by unfold gd; rw [L1e, L1e, L0m, if_pos (by omega)]
      omega
     have hgt : ∀ y ∈ o.drop (loF o v), v < y := fun y hy => by
      rw [Jaz o _ hl] at hy p2
      rcases L0i.1 hy with rfl | hy
      . omega
      . have := (L1p.1 p2).1 y hy; omega
     rw [List.pairwise_append]
     refine ⟨p1, L1p.2 ⟨hgt, p2⟩, fun a ha b hb => ?_⟩
     rcases L0i.1 hb with rfl | hb
     . exact hlt a ha
     . exact p3 a ha b hb
 . rcases (ins_mem o v _ hl).1 hy with rfl | hy
   . exact ⟨h0, h1⟩
   . exact h.inn y hy
theorem ins_len (o : List Int) (v : Int) : (insB o v).length <= o.length + 1 := by
 unfold insB
 split
 . omega
 . rw [L07, L0h, L02, L0f]; omega
theorem brdN_ok : ∀ (l : List Rt) (o : List Int), BrdOK o -> (∀ r ∈ l, Jjv r = true) -> BrdOK (brdN o l) /\ (∀ y ∈ o, y ∈ brdN o l) /\ (∀ r ∈ l, r.f ∈ brdN o l /\ r.t ∈ brdN o l) /\ (brdN o l).length <= o.length + 2 * l.length
 | [], o, h, _ => ⟨h, fun y hy => hy, (by simp), by rw [brdN]; simp⟩
 | r :: l, o, h, hg => by
  have g := Jbl.1 (hg r (by simp))
  have k1 := ins_ok h (v := r.f) (by omega) (by omega)
  have k2 := ins_ok k1 (v := r.t) (by omega) (by omega)
  have m1 := fun y => ins_mem o r.f y (lo_lt h (by omega))
  have m2 := fun y => ins_mem (insB o r.f) r.t y (lo_lt k1 (by omega))
  obtain ⟨q1, q2, q3, q4⟩ := brdN_ok l _ k2 (fun r hr => hg r (by simp [hr]))
  have l1 := ins_len o r.f; have l2 := ins_len (insB o r.f) r.t; rw [brdN]
  refine ⟨q1, fun y hy => q2 y ((m2 y).2 (.inr ((m1 y).2 (.inr hy)))), fun s hs => ?_, by rw [L0h]; omega⟩
  rcases L0i.1 hs with rfl | hs
  . exact ⟨q2 _ ((m2 _).2 (.inr ((m1 _).2 (.inl rfl)))), q2 _ ((m2 _).2 (.inl rfl))⟩
  . exact q3 s hs
theorem brdN_snoc (l : List Rt) : ∀ (o : List Int) (r : Rt), brdN o (l ++ [r]) = insB (insB (brdN o l) r.f) r.t := by
 induction l with
 | nil => intro o r; rfl
 | cons a l b => intro o r; rw [L0y, brdN, b, brdN]
def twoB (o : List Int) (f t : Int) (j : Nat) : List Int := if j = 0 then o else if j = 1 then insB o f else insB (insB o f) t
theorem twoB_step (o : List Int) (f t : Int) {j : Nat} (h : j < 2) : twoB o f t (j + 1) = insB (twoB o f t j) (gd [f, t] j) := by
 match j, h with
 | 0, _ => rfl
 | 1, _ => rfl
def BI (x : Tf) (i : Nat) (q : List Int) (o : List Int) (j : Nat) (E : Env) (a : Jac) : Prop :=
 E 1 = .ptr 394264592 2 0 0 /\ E 3 = SL o /\ E 4 = I i /\ E 28 = .own 394265024 1 0 2 /\ E 29 = I 2 /\ E 30 = I j /\ a 394264592 = some ⟨96, 2, [TF x]⟩ /\ a 394265024 = some ⟨3, 1, q.map I⟩
set_option maxHeartbeats 8000000 in
theorem borders_ev (x : Tf) (hx : JaV x = true) : Ev prog 187 [TF x] (SL (brdF x)) := by
 obtain ⟨⟨h1, h2, h3⟩, h4⟩ := Ja6.1 hx
 refine EW [2, 12, 13] func187 ?_
 simp -implicitDefEqProofs (disch := omega) only [go_sem, ntmps187]
 refine Jap Plain.mono [394264704] ?_
 simp -implicitDefEqProofs (disch := omega) only [go_sem]
 refine Jag (fun m E σ => ∃ i : Nat, i + m = x.l.length /\ E 1 = .ptr 394264592 2 0 0 /\ E 3 = SL (brdN [0, 86400] (x.l.take i)) /\ E 4 = I i /\ σ 394264592 = some ⟨96, 2, [TF x]⟩) x.l.length ⟨0, by omega, ?_⟩ ?_
 . simp -implicitDefEqProofs (disch := omega) only [go_sem]
   exact ⟨rfl, rfl⟩
 rintro m E σ ⟨i, hm, e1, e3, e4, m1⟩
 simp -implicitDefEqProofs (disch := omega) only [go_sem, e1, e3, e4, m1]
 refine Jab (fun hc => ?_) (fun hc => ?_)
 rotate_left
 . obtain rfl : i = x.l.length := by omega
   rw [L0e] at e3
   have e3 : E 3 = SL (brdF x) := e3
   simp -implicitDefEqProofs (disch := omega) only [go_sem, e3, results187]
 have hil : i < x.l.length := by omega
 have hsn : brdN [0, 86400] (x.l.take (i + 1)) = twoB (brdN [0, 86400] (x.l.take i)) (gd x.l i).f (gd x.l i).t 2 := by
  rw [List.take_succ_eq_append_getElem hil, brdN_snoc, show x.l[i] = gd x.l i by unfold gd; simp [hil]]; rfl
 have hg := Jbl.1 (h4 _ (Jan x.l i hil))
 obtain ⟨q1, _, _, q4⟩ := brdN_ok (x.l.take i) [0, 86400] brd0 (fun r hr => h4 r (L0G hr))
 rw [L02] at q4
 have q4 : (brdN [0, 86400] (x.l.take i)).length <= 30 := by simp only [L0h, L0t] at q4; omega
 generalize brdN [0, 86400] (x.l.take i) = o at *; simp -implicitDefEqProofs (disch := omega) only [go_sem, e1, e3, e4, m1]; generalize hrr : gd x.l i = r at *; obtain ⟨rd, rf, rt, rp⟩ := r
 simp only at *
 have k1 := ins_ok q1 (v := rf) (by omega) (by omega)
 have k2 := ins_ok k1 (v := rt) (by omega) (by omega)
 have l1 := ins_len o rf; have l2 := ins_len (insB o rf) rt
 have hall : ∀ j, BrdOK (twoB o rf rt j) /\ (twoB o rf rt j).length <= 40 := fun j => by
  unfold twoB
  split
  . exact ⟨q1, by omega⟩
  . split
    . exact ⟨k1, by omega⟩
    . exact ⟨k2, by omega⟩
 have hst := fun {j} h => twoB_step o rf rt (j := j) h
 have h0 : twoB o rf rt 0 = o := rfl
 have hgv : ∀ j, j < 2 -> 0 <= gd [rf, rt] j /\ gd [rf, rt] j <= 86400 := fun j hj => by
  match j, hj with
  | 0, _ => show 0 <= rf /\ rf <= 86400; omega
  | 1, _ => show 0 <= rt /\ rt <= 86400; omega
 have hql : ([rf, rt] : List Int).length = 2 := rfl
 rw [<- h0] at e3
 have hqm : [AV.v (.int .i64 rf), AV.v (.int .i64 rt)] = [rf, rt].map I := rfl
 refine Jag (fun m E σ => ∃ j : Nat, j + m = 2 /\ BI x i [rf, rt] (twoB o rf rt j) j E σ) 2 ⟨0, by omega, ?_⟩ ?_
 . simp -implicitDefEqProofs (disch := omega) only [go_sem, BI, e1, e3, e4, m1, hrr]
   try ((repeat' apply And.intro) <;> rfl)
 clear e1 e3 e4 m1 h0 l1 l2 k1 k2 q1 hqm hc; generalize twoB o rf rt = W at *; generalize ([rf, rt] : List Int) = q at *; clear E σ
 rintro m E σ ⟨j, hm2, ⟨e1, e3, e4, e28, e29, e30, m1, m28⟩⟩
 simp -implicitDefEqProofs (disch := omega) only [go_sem, e1, e3, e4, e28, e29, e30, m1, m28]
 refine Jab (fun hc => ?_) (fun hc => ?_)
 rotate_left
 . obtain rfl : j = 2 := by omega
   simp -implicitDefEqProofs (disch := omega) only [go_sem, e1, e3, e4, e28, e29, e30, m1, m28]
   refine Jad (x.l.length - (i + 1)) (by omega) ⟨i + 1, by omega, ?_⟩
   rw [hsn]; simp -implicitDefEqProofs (disch := omega) only [go_sem, e1, e3, e4, e28, e29, e30, m1, m28]; try rfl
 have hj : j < 2 := by omega
 have hjq : j < q.length := by omega
 obtain ⟨w1, w2⟩ := hall j
 obtain ⟨v1, v2⟩ := hgv j hj
 have hW := hst hj; have hlo := lo_lt w1 v2; have hge := lo_ge w1 v2; have hlt := JhC (W j) (gd q j); unfold insB at hW; simp -implicitDefEqProofs (disch := omega) only [go_sem, e1, e3, e4, e28, e29, e30, m1, m28]; generalize gd q j = n at *; clear hall hgv hst; generalize W j = l at *
 refine Jag (fun m E σ => ∃ u : Nat, u + m = loF l n /\ BI x i q l j E σ /\ E 6 = I n /\ E 7 = I u) (loF l n) ⟨0, by omega, ?_⟩ ?_
 . simp -implicitDefEqProofs (disch := omega) only [go_sem, BI, e1, e3, e4, e28, e29, e30, m1, m28]
   try ((repeat' apply And.intro) <;> rfl)
 clear e1 e3 e4 e28 e29 e30 m1 m28 E σ
 rintro m' E σ ⟨u, hk, ⟨e1, e3, e4, e28, e29, e30, m1, m28⟩, e6, e7⟩
 have hkl : u < l.length := by omega
 simp -implicitDefEqProofs (disch := omega) only [go_sem, e1, e3, e4, e28, e29, e30, m1, m28, e6, e7]
 refine Jab (fun c1 => ?_) (fun c1 => ?_)
 . have hk2 : u < loF l n := by
    rcases Nat.lt_or_ge u (loF l n) with h | h
    . exact h
    . have e : u = loF l n := by omega
      rw [<- e] at hge; omega
   simp -implicitDefEqProofs (disch := omega) only [go_sem, e1, e3, e4, e28, e29, e30, m1, m28, e6, e7]
   refine Jad (loF l n - (u + 1)) (by omega) ⟨u + 1, by omega, ?_⟩
   simp -implicitDefEqProofs (disch := omega) only [go_sem, BI, e1, e3, e4, e28, e29, e30, m1, m28, e6, e7]; try rfl
 have hk2 : loF l n = u := by
  rcases Nat.lt_or_ge u (loF l n) with h | h
  . have := hlt u h; omega
  . omega
 rw [hk2] at hW; simp -implicitDefEqProofs (disch := omega) only [go_sem, e1, e3, e4, e28, e29, e30, m1, m28, e6, e7]
 refine Jab (fun c2 => ?_) (fun c2 => ?_)
 rotate_left
 . rw [if_pos (by omega)] at hW
   simp -implicitDefEqProofs (disch := omega) only [go_sem, e1, e3, e4, e28, e29, e30, m1, m28, e6, e7]
   refine Jap Plain.mono [394265504] ?_
   simp -implicitDefEqProofs (disch := omega) only [go_sem, e1, e3, e4, e28, e29, e30, m1, m28, e6, e7]
   refine Jad (2 - (j + 1)) (by omega) ⟨j + 1, by omega, ?_⟩
   rw [hW]; simp -implicitDefEqProofs (disch := omega) only [go_sem, BI, e1, e3, e4, e28, e29, e30, m1, m28, e6, e7]; try rfl
 . rw [if_neg c2] at hW
   have hi : u <= l.length := by omega
   have htl : (l.take u).length = u := by rw [L02]; omega
   have hdl : (l.drop u).length = l.length - u := L0f
   simp -implicitDefEqProofs (disch := omega) only [go_sem, e1, e3, e4, e28, e29, e30, m1, m28, e6, e7]
   refine JpC (fun D E σ => E 1 = .ptr 394264592 2 0 0 /\ E 4 = I i /\ E 6 = I n /\ E 7 = I u /\ E 28 = .own 394265024 1 0 2 /\ E 29 = I 2 /\ E 30 = I j /\ σ 394264592 = some ⟨96, 2, [TF x]⟩ /\ (D 10 = true -> D 9 = true) /\ (D 10 = true -> D 3 = true) /\ (D 11 = true -> D 10 = true) /\ (D 9 = true -> D 5 = true) /\ (D 11 = true -> D 0 = true) /\ (D 11 = true -> D 6 = true) /\ (D 5 = true -> D 9 = false -> σ 394265424 = some ⟨3, 1, [I n]⟩) /\ (D 5 = true -> D 9 = false -> E 53 = .own 394265424 1 0 1) /\ (D 9 = true -> σ 394265424 = some ⟨3, 1, I n :: (l.drop u).map I⟩) /\ (D 9 = true -> E 57 = .own 394265424 1 0 (1 + (l.length - u))) /\ (D 10 = true -> σ 394265504 = some ⟨3, 1, (l.take u).map I ++ I n :: (l.drop u).map I⟩) /\ (D 11 = false -> σ 394265024 = some ⟨3, 1, q.map I⟩) /\ (D 11 = false -> E 3 = SL l) /\ (D 11 = true -> σ 394265024 = some ⟨3, 1, q.map I⟩) /\ (D 11 = true -> E 3 = .own 394265504 1 0 (l.length + 1)) /\ (D 0 = true -> E 48 = SL l) /\ (D 1 = true -> E 49 = I u) /\ (D 2 = true -> E 50 = I u) /\ (D 3 = true -> E 51 = .cut 1 ((l.take u).map I)) /\ (D 4 = true -> E 52 = I n) /\ (D 6 = true -> E 54 = SL l) /\ (D 7 = true -> E 55 = I u) /\ (D 8 = true -> E 56 = SL (l.drop u)) /\ (D 10 = true -> E 58 = .own 394265504 1 0 (l.length + 1))) 10 ?_ ?_ ?_ ?_
   . simp -implicitDefEqProofs (disch := omega) only [go_sem, hi, hdl, htl]
     refine ⟨e1, e4, e6, e7, e28, e29, e30, m1, ?_⟩; simp [m28, e3]
   . simp only [JiS, ne_eq, Nat.reduceAdd, Nat.reduceEqDiff, not_true_eq_false, not_false_eq_true, false_implies, true_implies, depK, Region.binds, eq_self, forall_const, and_true]
     repeat' apply And.intro
     all_goals try exact trivial
     all_goals
      rintro D E σ ⟨e1, e4, e6, e7, e28, e29, e30, m1, c10_9, c10_3, c11_10, c9_5, c11_0, c11_6, m0_0, n0_0, m0_1, n0_1, m1_0, m2_0, n2_0, m2_1, n2_1, j0, j1, j2, j3, j4, j6, j7, j8, j10⟩ hd
      have k := And.intro trivial <| And.intro (cK c10_9) <| And.intro (cK c10_3) <| And.intro (cK c11_10) <| And.intro (cK c9_5) <| And.intro (cK c11_0) <| And.intro (cK c11_6) trivial
      simp -implicitDefEqProofs (disch := first | assumption | (simp only [hd, k]; done) | omega) only [go_sem, e1, e4, e6, e7, e28, e29, e30, m1, m0_0, n0_0, m0_1, n0_1, m1_0, m2_0, n2_0, m2_1, n2_1, j0, j1, j2, j3, j4, j6, j7, j8, j10, hi, hdl, htl]
      try (refine Jno (sz := 1) (es := l.map I) (e := 3) 0 u (km := .i64) (by simp -implicitDefEqProofs (disch := first | assumption | (simp only [hd, k]; done) | omega) only [go_sem, e1, e4, e6, e7, e28, e29, e30, m1, m0_0, n0_0, m0_1, n0_1, m1_0, m2_0, n2_0, m2_1, n2_1, j0, j1, j2, j3, j4, j6, j7, j8, j10, hi, hdl, htl]) (by simp -implicitDefEqProofs (disch := omega) only [go_sem]) (by simp -implicitDefEqProofs (disch := omega) only [go_sem]) (by decide) (by simp -implicitDefEqProofs (disch := first | assumption | (simp only [hd, k]; done) | omega) only [go_sem, e1, e4, e6, e7, e28, e29, e30, m1, m0_0, n0_0, m0_1, n0_1, m1_0, m2_0, n2_0, m2_1, n2_1, j0, j1, j2, j3, j4, j6, j7, j8, j10, hi, hdl, htl]) (by simp) (JbL (k := .i64) (n := (u : Int)) (by simp -implicitDefEqProofs (disch := first | assumption | (simp only [hd, k]; done) | omega) only [go_sem, e1, e4, e6, e7, e28, e29, e30, m1, m0_0, n0_0, m0_1, n0_1, m1_0, m2_0, n2_0, m2_1, n2_1, j0, j1, j2, j3, j4, j6, j7, j8, j10, hi, hdl, htl]) (by omega) ⟨rfl, by omega, L13 _, by rw [L06]; exact hi⟩) ?_; rw [List.drop_zero, L0H, <- L1H]; simp -implicitDefEqProofs (disch := first | assumption | (simp only [hd, k]; done) | omega) only [go_sem, e1, e4, e6, e7, e28, e29, e30, m1, m0_0, n0_0, m0_1, n0_1, m1_0, m2_0, n2_0, m2_1, n2_1, j0, j1, j2, j3, j4, j6, j7, j8, j10, hi, hdl, htl])
      repeat' apply And.intro
      all_goals first | assumption | (intro _; assumption) | trivial | (simp -implicitDefEqProofs (contextual := true) (disch := first | assumption | omega) only [go_sem, m0_0, n0_0, m0_1, n0_1, m1_0, m2_0, n2_0, m2_1, n2_1, j0, j1, j2, j3, j4, j6, j7, j8, j10, hd, c10_9, c10_3, c11_10, c9_5, c11_0, c11_6, k, implies_true, forall_const, false_implies, true_implies]; done) | (intro h; intros; exfalso; simp (maxDischargeDepth := 9) [hd, k] at h; done) | (intros; contradiction) | trace_state
   . intro o ho
     obtain rfl := Option.some.inj ho
     refine ⟨rfl, ?_⟩
     rintro D E σ ⟨e1, e4, e6, e7, e28, e29, e30, m1, c10_9, c10_3, c11_10, c9_5, c11_0, c11_6, m0_0, n0_0, m0_1, n0_1, m1_0, m2_0, n2_0, m2_1, n2_1, j0, j1, j2, j3, j4, j6, j7, j8, j10⟩ hd
     have k := And.intro trivial <| And.intro (cK c10_9) <| And.intro (cK c10_3) <| And.intro (cK c11_10) <| And.intro (cK c9_5) <| And.intro (cK c11_0) <| And.intro (cK c11_6) trivial; obtain ⟨hD, h3, h9, _⟩ := hd
     have h3 : D 3 = true := h3 rfl
     have h9 : D 9 = true := h9 rfl
     have q3 := j3 h3; have qm := m0_1 h9; have qn := n0_1 h9
     have h11 : D 11 = false := by cases h : D 11 with | false => rfl | true => have := c11_10 h; rw [hD] at this; cases this
     have r1 := m2_0 h11; have r2 := n2_0 h11
     refine Ji6 (es := (l.take u).map I) (xs := I n :: (l.drop u).map I) (sz := 1) (e := 3) (d := 58) (z := .int .i64 0) (by simp -implicitDefEqProofs (disch := omega) only [go_sem, q3]) (by simp -implicitDefEqProofs (disch := omega) only [go_sem]) (by simp -implicitDefEqProofs (disch := omega) only [go_sem]) (by decide) (by kernel_rfl) rfl (by simp -implicitDefEqProofs (disch := omega) only [go_sem]) (by intro s; simp -implicitDefEqProofs (disch := omega) only [go_sem, qn]; intro h; cases h) ?_ (by simp) ?_ ?_ ?_ ?_ ?_
     . simp only [Jd8, ev]; rw [qn]; exact ⟨_, qm, rfl, by simp [hdl]; omega, rfl, by rw [List.drop_zero, L0b (by simp [hdl]; omega)]⟩
     . intro e he; rcases L0i.1 he with rfl | he; rfl; obtain ⟨x, _, rfl⟩ := L08.1 he; rfl
     . have e8 : tby (spB prog 187 61 [2, 12, 13]).P 3 = 8 := by kernel_rfl
       rw [e8]; simp [htl, hdl]; omega
     . simp [htl, hdl]; omega
     . rw [show (l.take u).map I ++ I n :: (l.drop u).map I = (l.take u ++ n :: l.drop u).map I by simp]; exact JgQ _ _
     have elen : ((l.take u).map I).length + (I n :: (l.drop u).map I).length = l.length + 1 := by simp [htl, hdl]; omega
     rw [elen]; simp -implicitDefEqProofs (disch := omega) only [go_sem, e1, e4, e6, e7, e28, e29, e30, m1, hD, h3, h9, h11, q3, qm, qn, r1, r2]
     repeat' apply And.intro
     all_goals first | assumption | exact False.elim | exact fun _ => trivial | exact fun _ => c9_5 h9 | exact fun _ h => h.elim | (intro h; rw [h11] at h; cases h) | (intro h; rw [j0 h]; rfl) | (intro h; rw [j1 h]; rfl) | (intro h; rw [j2 h]; rfl) | (intro h; rw [j4 h]; rfl) | (intro h; rw [j6 h]; rfl) | (intro h; rw [j7 h]; rfl) | (intro h; rw [j8 h]; rfl) | trace_state
   . rintro D E σ hD ⟨e1, e4, e6, e7, e28, e29, e30, m1, c10_9, c10_3, c11_10, c9_5, c11_0, c11_6, m0_0, n0_0, m0_1, n0_1, m1_0, m2_0, n2_0, m2_1, n2_1, j0, j1, j2, j3, j4, j6, j7, j8, j10⟩
     have g0 := m0_1 (hD 9 (by decide))
     have f0 := n0_1 (hD 9 (by decide))
     have g1 := m1_0 (hD 10 (by decide))
     have g2 := m2_1 (hD 11 (by decide))
     have f2 := n2_1 (hD 11 (by decide))
     have q0 := j0 (hD 0 (by decide))
     have q1 := j1 (hD 1 (by decide))
     have q2 := j2 (hD 2 (by decide))
     have q3 := j3 (hD 3 (by decide))
     have q4 := j4 (hD 4 (by decide))
     have q6 := j6 (hD 6 (by decide))
     have q7 := j7 (hD 7 (by decide))
     have q8 := j8 (hD 8 (by decide))
     have q10 := j10 (hD 10 (by decide))
     clear c10_9 c10_3 c11_10 c9_5 c11_0 c11_6 m0_0 n0_0 m0_1 n0_1 m1_0 m2_0 n2_0 m2_1 n2_1 j0 j1 j2 j3 j4 j6 j7 j8 j10 hD
     have hj : (l.take u).map I ++ I n :: (l.drop u).map I = (l.take u ++ n :: l.drop u).map I := by simp
     rw [hj] at g1
     have hlen : (l.take u ++ n :: l.drop u).length = l.length + 1 := by simp [hdl]; omega
     rw [<- hlen] at f2
     have ht := L0e (l := l.take u ++ n :: l.drop u)
     generalize l.take u ++ n :: l.drop u = L at *; simp -implicitDefEqProofs (disch := omega) only [go_sem, e1, e4, e6, e7, e28, e29, e30, m1, f2, g1, g2]
     refine Jap Plain.mono [394265504] ?_
     simp -implicitDefEqProofs (disch := omega) only [go_sem, e1, e4, e6, e7, e28, e29, e30, m1, f2, g1, g2, ht]
     refine Jad (2 - (j + 1)) (by omega) ⟨j + 1, by omega, ?_⟩
     rw [hW]; simp -implicitDefEqProofs (disch := omega) only [go_sem, BI, e1, e4, e6, e7, e28, e29, e30, m1, f2, g1, g2, ht]; try rfl
section
variable (x : Tf) (z a b : Int)
def oneP (d : Int) (k : Nat) : List (Int × Int × Int) :=
 if max (d + gd (brdF x) k) a < min (d + gd (brdF x) (k + 1)) b then [(max (d + gd (brdF x) k) a, min (d + gd (brdF x) (k + 1)) b, JcD x ((d + z + 604800) / 86400 % 7 * 86400 + gd (brdF x) k))] else []
def dayP (d : Int) : Nat -> List (Int × Int × Int)
 | 0 => []
 | k + 1 => dayP d k ++ oneP x z a b d k
def day0 : Int := a - (a + z + 604800) % 86400
def daysN : Nat -> List (Int × Int × Int)
 | 0 => []
 | n + 1 => daysN n ++ dayP x z a b (day0 z a + 86400 * n) ((brdF x).length - 1)
def dayC : Nat := ((b - day0 z a + 86399) / 86400).toNat
def pcsR : List (Int × Int × Int) := daysN x z a b (dayC z a b)
end
def sumP (l : List (Int × Int × Int)) : Int := (l.map fun q => q.2.2 * (q.2.1 - q.1)).sum
theorem sumP_app (l m : List (Int × Int × Int)) : sumP (l ++ m) = sumP l + sumP m := by simp [sumP]
theorem brd_ok {x : Tf} (h : JaV x = true) : BrdOK (brdF x) /\ (∀ r ∈ x.l, r.f ∈ brdF x /\ r.t ∈ brdF x) /\ (brdF x).length <= 22 := by
 obtain ⟨⟨e, g, i⟩, a⟩ := Ja6.1 h
 obtain ⟨b, _, c, d⟩ := brdN_ok x.l [0, 86400] brd0 a
 exact ⟨b, c, by simp only [L0h, L0t] at d; exact (by omega : (brdN [0, 86400] x.l).length <= 22)⟩
theorem asc_gd {o : List Int} (h : o.Pairwise (· < ·)) {i j : Nat} (b : j < o.length) (a : i < j) : gd o i < gd o j := by
 have := List.pairwise_iff_getElem.1 h i j (by omega) b a
 have c : gd o i = o[i] := by unfold gd; simp [show i < o.length by omega]
 have d : gd o j = o[j] := by unfold gd; simp [b]
 rw [c, d]; exact this
theorem brd_first {o : List Int} (h : BrdOK o) : 0 < o.length /\ gd o 0 = 0 := by
 obtain ⟨i, a, e⟩ := gd_of_mem h.bot
 refine ⟨by omega, ?_⟩
 have c := h.inn _ (Jan o 0 (by omega))
 rcases Nat.eq_zero_or_pos i with rfl | b
 . exact e
 . have := asc_gd h.asc a b; omega
theorem brd_last {o : List Int} (h : BrdOK o) : 1 < o.length /\ gd o (o.length - 1) = 86400 := by
 obtain ⟨i, k, e⟩ := gd_of_mem h.top
 obtain ⟨d, f⟩ := brd_first h
 have g := h.inn _ (Jan o (o.length - 1) (by omega))
 have b : 0 < i := by
  rcases Nat.eq_zero_or_pos i with rfl | c
  . omega
  . exact c
 refine ⟨by omega, ?_⟩
 rcases Nat.lt_or_ge i (o.length - 1) with a | a
 . have := asc_gd h.asc (i := i) (j := o.length - 1) (by omega) a; omega
 . rw [show o.length - 1 = i by omega]; exact e
theorem brd_side {o : List Int} (h : BrdOK o) {k : Nat} (e : k + 1 < o.length) {v : Int} (d : v ∈ o) : v <= gd o k \/ gd o (k + 1) <= v := by
 obtain ⟨i, c, rfl⟩ := gd_of_mem d
 rcases Nat.lt_or_ge k i with b | b
 . rcases Nat.lt_or_ge (k + 1) i with a | a
   . exact .inr (Int.le_of_lt (asc_gd h.asc c a))
   . rw [show i = k + 1 by omega]; exact .inr (L1M _)
 . rcases Nat.lt_or_ge i k with a | a
   . exact .inl (Int.le_of_lt (asc_gd h.asc (by omega) a))
   . rw [show i = k by omega]; exact .inl (L1M _)
theorem rate_same {x : Tf} (h : JaV x = true) {k : Nat} (f : k + 1 < (brdF x).length) {w s : Int} (u : 0 <= w) (q : gd (brdF x) k <= s) (t : s < gd (brdF x) (k + 1)) : JcD x (w * 86400 + s) = JcD x (w * 86400 + gd (brdF x) k) := by
 obtain ⟨d, a, _⟩ := brd_ok h
 have y := d.inn _ (Jan _ k (by omega))
 have z := d.inn _ (Jan _ (k + 1) f)
 have i := fun v n => brd_side d f (v := v) n
 generalize gd (brdF x) k = c at *; generalize gd (brdF x) (k + 1) = e at *
 have b : ∀ r ∈ x.l, hitR (w * 86400 + s) r = hitR (w * 86400 + c) r := fun r g => by
  have A := i _ (a r g).1; have B := i _ (a r g).2; unfold hitR
  rw [show (w * 86400 + s) / 86400 = w by omega, show (w * 86400 + c) / 86400 = w by omega, show (w * 86400 + s) % 86400 = s by omega, show (w * 86400 + c) % 86400 = c by omega]
  apply decide_eq_decide.2
  refine and_congr Iff.rfl ?_
  omega
 have m : x.l.find? (hitR (w * 86400 + s)) = x.l.find? (hitR (w * 86400 + c)) := by
  generalize x.l = l at b; clear a
  induction l with
  | nil => rfl
  | cons r l o => rw [L2e, L2e, b r (by simp), o fun p j => b p (by simp [j])]
 unfold JcD; rw [m]
def clP (a b t : Int) : Int := max a (min t b)
theorem oneP_sum {x : Tf} (h : JaV x = true) {z a b d : Int} {k : Nat} (j : k + 1 < (brdF x).length) (o : Jbr z = true) (A : 0 <= a) (q : a <= b) (B : -86400 < d) (r : (d + z + 604800) % 86400 = 0) :
 sumP (oneP x z a b d k) = sumF x z (clP a b (d + gd (brdF x) k)) (clP a b (d + gd (brdF x) (k + 1))) := by
 have o := JbR.1 o
 obtain ⟨l, D, _⟩ := brd_ok h
 have E := l.inn _ (Jan _ k (by omega))
 have F := l.inn _ (Jan _ (k + 1) j); have G := asc_gd l.asc j (L2a k)
 have v := fun w s p m n => rate_same h j (w := w) (s := s) p m n
 unfold oneP; generalize gd (brdF x) k = c at *; generalize gd (brdF x) (k + 1) = e at *; unfold clP
 split
 . rename_i u
   rw [show max a (min (d + c) b) = max (d + c) a by omega, show max a (min (d + e) b) = min (d + e) b by omega]
   have m : d + c <= max (d + c) a := by omega
   have n : min (d + e) b <= d + e := by omega
   have y : 0 <= max (d + c) a := by omega
   generalize max (d + c) a = f at *; generalize min (d + e) b = t at *; unfold sumF
   rw [Jfr (c := JcD x ((d + z + 604800) / 86400 % 7 * 86400 + c)) fun i C => ?_, L21 (by omega)]
   . simp [sumP]
   . unfold JfM
     have g : locF z (f + i) = (d + z + 604800) / 86400 % 7 * 86400 + (f + i - d) := by unfold locF; omega
     rw [g]
     exact v _ _ (by omega) (by omega) (by omega)
 . rw [show max a (min (d + c) b) = max a (min (d + e) b) by omega]
   unfold sumF; rw [Int.sub_self]
   rfl
theorem dayP_sum {x : Tf} (h : JaV x = true) {z a b d : Int} (j : Jbr z = true) (f : 0 <= a) (c : a <= b) (g : -86400 < d) (e : (d + z + 604800) % 86400 = 0) :
 ∀ k : Nat, k < (brdF x).length -> sumP (dayP x z a b d k) = sumF x z (clP a b d) (clP a b (d + gd (brdF x) k))
 | 0, _ => by
  rw [(brd_first (brd_ok h).1).2, Int.add_zero, dayP]; unfold sumF
  rw [Int.sub_self]; rfl
 | k + 1, i => by
  obtain ⟨l, _, _⟩ := brd_ok h
  have m := l.inn _ (Jan _ k (by omega))
  have n := asc_gd l.asc i (L2a k)
  rw [dayP, sumP_app, dayP_sum h j f c g e k (by omega), oneP_sum h i j f c g e]
  exact (Jf8 x z (by unfold clP; omega) (by unfold clP; omega)).symm
theorem daysN_sum {x : Tf} (h : JaV x = true) {z a b : Int} (d : Jbr z = true) (f : 0 <= a) (c : a <= b) : ∀ n : Nat, sumP (daysN x z a b n) = sumF x z a (clP a b (day0 z a + 86400 * n))
 | 0 => by
  have : clP a b (day0 z a + 86400 * (0 : Nat)) = a := by unfold clP day0; omega
  rw [this, daysN]; unfold sumF
  rw [Int.sub_self]; rfl
 | n + 1 => by
  have g := JbR.1 d
  obtain ⟨j, i⟩ := brd_last (brd_ok h).1
  have e : ((n + 1 : Nat) : Int) = n + 1 := rfl
  rw [daysN, sumP_app, daysN_sum h d f c n, dayP_sum h d f c (by unfold day0; omega) (by unfold day0; omega) _ (by omega), i, e,
   show day0 z a + 86400 * ((n : Int) + 1) = day0 z a + 86400 * n + 86400 by omega]
  exact (Jf8 x z (by unfold clP day0; omega) (by unfold clP; omega)).symm
theorem pcsR_sum {x : Tf} (h : JaV x = true) {z a b : Int} (d : Jbr z = true) (e : 0 <= a) (c : a <= b) : sumP (pcsR x z a b) = sumF x z a b := by
 have f := JbR.1 d; unfold pcsR
 rw [daysN_sum h d e c, show clP a b (day0 z a + 86400 * (dayC z a b : Nat)) = b by unfold clP dayC day0; omega]
abbrev PC3 (q : Int × Int × Int) : AV := .agg [I q.1, I q.2.1, I q.2.2]
abbrev PCS (l : List (Int × Int × Int)) : AV := .sl 3 (l.map PC3)
section
variable (p : Nat -> Bool) (l : List (Int × Int × Int))
@[go_sem] theorem namesL_PC3 : AV.namesL p (l.map PC3) = false := Jam p l PC3 fun _ => rfl
@[go_sem] theorem flatL_PC3 : AV.flatL (l.map PC3) = true := Ja5 l PC3 fun _ => rfl
@[go_sem] theorem allOK_PC3 : JbH 3 (l.map PC3) = true := JaD 3 l PC3 fun _ => ⟨rfl, rfl⟩
end
@[go_sem] theorem append_PC3 (l : List (Int × Int × Int)) (a b c : Int) : l.map PC3 ++ [.agg [.v (.int .i64 a), .v (.int .i64 b), .v (.int .i64 c)]] = (l ++ [((a, b, c) : Int × Int × Int)]).map PC3 := by simp
theorem dayP_len (x : Tf) (z a b d : Int) : ∀ k, (dayP x z a b d k).length <= k
 | 0 => L0a _
 | k + 1 => by
  have := dayP_len x z a b d k
  have c : (oneP x z a b d k).length <= 1 := by unfold oneP; split <;> simp
  rw [dayP, L07]; omega
theorem daysN_len (x : Tf) (z a b : Int) : ∀ n, (daysN x z a b n).length <= (brdF x).length * n
 | 0 => by rw [daysN]; simp
 | n + 1 => by
  have := daysN_len x z a b n
  have c := dayP_len x z a b (day0 z a + 86400 * n) ((brdF x).length - 1)
  rw [daysN, L07, Nat.mul_succ]; omega
def PI (x : Tf) (z a b : Int) (L : List (Int × Int × Int)) (d : Int) (E : Env) (c : Jac) : Prop :=
 E 1 = I z /\ E 3 = .ptr 329252912 2 0 0 /\ E 5 = .ptr 329252944 2 0 0 /\ E 7 = SL (brdF x) /\ E 8 = .own 329252992 3 0 L.length /\ E 9 = I d /\
 c 329252912 = some ⟨96, 2, [TF x]⟩ /\ c 329252944 = some ⟨66, 2, [.agg [I a, I b]]⟩ /\ c 329252992 = some ⟨203, 3, L.map PC3⟩
set_option maxHeartbeats 8000000 in
theorem pieces_ev (x : Tf) (z a b : Int) (hx : JaV x = true) (hz : Jbr z = true) (ha : 0 <= a) (aj : a <= b) (hb : b <= 10000000) : Ev prog 156 [TF x, I z, .agg [I a, I b]] (PCS (pcsR x z a b)) := by
 have ao := JbR.1 hz; have c1 := borders_ev x hx
 obtain ⟨ok, _, S⟩ := brd_ok hx
 obtain ⟨l1, l2⟩ := brd_last ok
 have V : a - (a + z + 604800).tmod 86400 = day0 z a := by rw [L11 (by omega)]; rfl
 have ak : -86400 < day0 z a /\ day0 z a <= a /\ (day0 z a + z + 604800) % 86400 = 0 := by unfold day0; omega
 have hC : ∀ n : Nat, day0 z a + 86400 * n < b ↔ n < dayC z a b := fun n => by unfold dayC; omega
 have ah : dayC z a b <= 200 := by unfold dayC; omega
 have hN : ∀ n : Nat, daysN x z a b (n + 1) = daysN x z a b n ++ dayP x z a b (day0 z a + 86400 * n) ((brdF x).length - 1) := fun n => rfl
 have R := daysN_len x z a b
 have H : pcsR x z a b = daysN x z a b (dayC z a b) := rfl
 have Q : daysN x z a b 0 = [] := rfl
 refine JeE (r := .new 203 3 ((pcsR x z a b).map PC3)) ?_ _
 rw [H]; generalize day0 z a = c at *; generalize dayC z a b = C at *
 refine EV func156 ?_
 simp -implicitDefEqProofs (disch := omega) only [go_sem, ntmps156]
 refine Jaa c1 ?_
 simp -implicitDefEqProofs (disch := omega) only [go_sem, V]
 refine Jag (fun m E B => ∃ n : Nat, n + m = C /\ PI x z a b (daysN x z a b n) (c + 86400 * n) E B) C ⟨0, by omega, ?_⟩ ?_
 . rw [Q]; simp -implicitDefEqProofs (disch := omega) only [go_sem, PI]
   try ((repeat' apply And.intro) <;> first | rfl | simp)
 rintro m E B ⟨n, hn, j, l, o, p, g, q, s, t, i⟩
 have ai := R n; have M := hC n; have Z := hN n; simp -implicitDefEqProofs (disch := omega) only [go_sem, j, l, o, p, g, q, s, t, i]
 refine Jab (fun hc => ?_) (fun hc => ?_)
 rotate_left
 . obtain rfl : n = C := by omega
   simp -implicitDefEqProofs (disch := omega) only [go_sem, g, i, L0e, results156]; try rfl
 have an : n < C := M.1 hc
 have aa : (c + 86400 * (n : Int) + z + 604800).tdiv 86400 = (c + 86400 * (n : Int) + z + 604800) / 86400 := L1j (by omega)
 have ab : ((c + 86400 * (n : Int) + z + 604800) / 86400).tmod 7 = (c + 86400 * (n : Int) + z + 604800) / 86400 % 7 := L11 (by omega)
 have am : -86400 < c + 86400 * (n : Int) /\ c + 86400 * (n : Int) <= 10000000 := by omega
 simp -implicitDefEqProofs (disch := omega) only [go_sem, j, l, o, p, g, q, s, t, i, aa, ab]
 have N : dayP x z a b (c + 86400 * (n : Int)) 0 = [] := rfl
 have O : ∀ k : Nat, dayP x z a b (c + 86400 * (n : Int)) (k + 1) = dayP x z a b (c + 86400 * (n : Int)) k ++ oneP x z a b (c + 86400 * (n : Int)) k := fun k => rfl
 have P := dayP_len x z a b (c + 86400 * (n : Int))
 have K : ∀ k : Nat, oneP x z a b (c + 86400 * (n : Int)) k = if max (c + 86400 * (n : Int) + gd (brdF x) k) a < min (c + 86400 * (n : Int) + gd (brdF x) (k + 1)) b then [(max (c + 86400 * (n : Int) + gd (brdF x) k) a, min (c + 86400 * (n : Int) + gd (brdF x) (k + 1)) b, JcD x ((c + 86400 * (n : Int) + z + 604800) / 86400 % 7 * 86400 + gd (brdF x) k))] else [] := fun k => rfl
 have A : c + 86400 * (n : Int) + 86400 = c + 86400 * ((n + 1 : Nat) : Int) := by omega
 have ac : 0 <= (c + 86400 * (n : Int) + z + 604800) / 86400 % 7 /\ (c + 86400 * (n : Int) + z + 604800) / 86400 % 7 < 7 := by omega
 generalize al : c + 86400 * (n : Int) = d at *; generalize (d + z + 604800) / 86400 % 7 = w at *; generalize dayP x z a b d = D at *; generalize oneP x z a b d = ag at *; generalize daysN x z a b n = W at *
 have G := fun (k : Nat) (h : k < (brdF x).length) => ok.inn _ (Jan _ k h)
 have T := fun (k : Nat) (h : k + 1 < (brdF x).length) => asc_gd ok.asc h (L2a k)
 refine Jag (fun m E B => ∃ k : Nat, k + m + 1 = (brdF x).length /\ PI x z a b (W ++ D k) d E B /\ E 10 = I w /\ E 11 = I k) ((brdF x).length - 1) ⟨0, by omega, ?_⟩ ?_
 . rw [N, L0J]; simp -implicitDefEqProofs (disch := omega) only [go_sem, PI, j, l, o, p, g, q, s, t, i]
   try ((repeat' apply And.intro) <;> rfl)
 clear j l o p g q s t i E B
 rintro m' E B ⟨k, hk, ⟨j, l, o, p, g, q, s, t, i⟩, e, f⟩
 simp -implicitDefEqProofs (disch := omega) only [go_sem, j, l, o, p, g, q, s, t, i, e, f]
 refine Jab (fun U => ?_) (fun U => ?_)
 rotate_left
 . have Y : k = (brdF x).length - 1 := by omega
   rw [Y] at g i; rw [<- Z] at g i; simp -implicitDefEqProofs (disch := omega) only [go_sem, j, l, o, p, g, q, s, t, i, e, f]
   refine Jad (C - (n + 1)) (by omega) ⟨n + 1, by omega, ?_⟩
   simp -implicitDefEqProofs (disch := omega) only [go_sem, PI, j, l, o, p, g, q, s, t, i, e, f, A]; try rfl
 have J : k + 1 < (brdF x).length := by omega
 have X : k < (brdF x).length := by omega
 have g1 := G k X; have g2 := G (k + 1) J; have g3 := T k J
 have u : ((k : Int) + 1).toNat = k + 1 := by omega
 have ad := on37_ev x w (gd (brdF x) k) hx ac (by omega)
 have F := O k; have v := K k; have ae := P k
 have af : W.length + (D k).length <= 10000 := by
  have : (brdF x).length * n <= 22 * 200 := Nat.mul_le_mul S (by omega)
  omega
 simp -implicitDefEqProofs (disch := omega) only [go_sem, j, l, o, p, g, q, s, t, i, e, f, u]
 have L : (W ++ D k).take (W.length + (D k).length) = W ++ D k := by rw [<- L07, L0e]
 refine Jab (fun y => ?_) (fun y => ?_)
 . rw [if_pos y] at v; simp -implicitDefEqProofs (disch := omega) only [go_sem, j, l, o, p, g, q, s, t, i, e, f, u]
   refine Jaa ad ?_
   simp -implicitDefEqProofs (disch := omega) only [go_sem, j, l, o, p, g, q, s, t, i, e, f, u, L]
   refine Jad ((brdF x).length - 1 - (k + 1)) (by omega) ⟨k + 1, by omega, ?_⟩
   rw [F, v, <- L0I]; simp -implicitDefEqProofs (disch := omega) only [go_sem, PI, j, l, o, p, g, q, s, t, i, e, f, u, L]; try rfl
 . rw [if_neg y] at v; simp -implicitDefEqProofs (disch := omega) only [go_sem, j, l, o, p, g, q, s, t, i, e, f, u]
   refine Jad ((brdF x).length - 1 - (k + 1)) (by omega) ⟨k + 1, by omega, ?_⟩
   rw [F, v, L0J]; simp -implicitDefEqProofs (disch := omega) only [go_sem, PI, j, l, o, p, g, q, s, t, i, e, f, u]; try rfl
def PcIn (b : Int) (q : Int × Int × Int) : Prop := (0 <= q.2.2 /\ q.2.2 <= 1000000) /\ (0 <= q.2.1 - q.1 /\ q.2.1 - q.1 <= 10000000) /\ 0 <= q.1 /\ q.2.1 <= b
theorem oneP_in {x : Tf} (h : JaV x = true) {z a b d : Int} (e : 0 <= a) (f : b <= 10000000) (k : Nat) : ∀ q ∈ oneP x z a b d k, PcIn b q := fun q c => by
 unfold oneP at c
 split at c
 . obtain rfl := L0p.1 c
   exact ⟨JiK h _, by simp only; omega, by simp only; omega, by simp only; omega⟩
 . cases c
theorem dayP_in {x : Tf} (h : JaV x = true) {z a b d : Int} (ha : 0 <= a) (hb : b <= 10000000) : ∀ k, ∀ q ∈ dayP x z a b d k, PcIn b q
 | 0, q, hq => by cases hq
 | k + 1, q, hq => by
  rw [dayP] at hq
  rcases L0w.1 hq with hq | hq
  . exact dayP_in h ha hb k q hq
  . exact oneP_in h ha hb k q hq
theorem daysN_in {x : Tf} (h : JaV x = true) {z a b : Int} (ha : 0 <= a) (hb : b <= 10000000) : ∀ n, ∀ q ∈ daysN x z a b n, PcIn b q
 | 0, q, hq => by cases hq
 | n + 1, q, hq => by
  rw [daysN] at hq
  rcases L0w.1 hq with hq | hq
  . exact daysN_in h ha hb n q hq
  . exact dayP_in h ha hb _ q hq
theorem pcsR_len {x : Tf} (h : JaV x = true) (z : Int) {a b : Int} (e : Jbr z = true) (j : 0 <= a) (d : a <= b) (k : b <= 10000000) : (pcsR x z a b).length <= 4400 := by
 have f := JbR.1 e; have g := daysN_len x z a b (dayC z a b)
 have c : dayC z a b <= 200 := by unfold dayC day0; omega
 have i : (brdF x).length * dayC z a b <= 22 * 200 := Nat.mul_le_mul (brd_ok h).2.2 c
 unfold pcsR; omega
theorem sumP_snoc (l : List (Int × Int × Int)) (i : Nat) (h : i < l.length) : sumP (l.take (i + 1)) = sumP (l.take i) + (gd l i).2.2 * ((gd l i).2.1 - (gd l i).1) := by
 rw [List.take_succ_eq_append_getElem h, sumP_app, show l[i] = gd l i by unfold gd; simp [h]]
 simp [sumP]
theorem sumP_in {b : Int} (l : List (Int × Int × Int)) (h : ∀ q ∈ l, PcIn b q) : 0 <= sumP l /\ sumP l <= 10000000000000 * l.length := by
 induction l with
 | nil => simp [sumP]
 | cons q l i =>
  have k := i fun j g => h j (by simp [g])
  obtain ⟨⟨c, d⟩, ⟨a, f⟩, _⟩ := h q (by simp)
  have m : 0 <= q.2.2 * (q.2.1 - q.1) := L1f c a
  have n : q.2.2 * (q.2.1 - q.1) <= 1000000 * 10000000 := Int.mul_le_mul d f a (by omega)
  have e : sumP (q :: l) = q.2.2 * (q.2.1 - q.1) + sumP l := by simp [sumP]
  rw [e, L0h]; omega
set_option maxHeartbeats 2000000 in
theorem sum37_ev (x : Tf) (z a b : Int) (j : JaV x = true) (p : Jbr z = true) (g : 0 <= a) (c : a <= b) (o : b <= 10000000) : Ev prog 114 [TF x, I z, .agg [I a, I b]] (I (sumF x z a b)) := by
 have w := pieces_ev x z a b j p g c o
 have f : ∀ q ∈ pcsR x z a b, PcIn b q := daysN_in j g o _
 have G := pcsR_len j z p g c o; rw [<- pcsR_sum j p g c]; generalize pcsR x z a b = l at *
 refine EV func114 ?_
 simp -implicitDefEqProofs (disch := omega) only [go_sem, ntmps114]
 refine Jaa w ?_
 simp -implicitDefEqProofs (disch := omega) only [go_sem]
 refine Jag (fun m E B => ∃ i : Nat, i + m = l.length /\ E 7 = PCS l /\ E 8 = I (sumP (l.take i)) /\ E 9 = I i) l.length ⟨0, by omega, ?_⟩ ?_
 . simp -implicitDefEqProofs (disch := omega) only [go_sem]
   exact ⟨rfl, rfl⟩
 rintro m E B ⟨i, F, k, d, n⟩
 simp -implicitDefEqProofs (disch := omega) only [go_sem, k, d, n]
 refine Jab (fun y => ?_) (fun y => ?_)
 . have e : i < l.length := by omega
   have A := sumP_snoc l i e
   obtain ⟨⟨t, u⟩, ⟨r, v⟩, C, D⟩ := f _ (Jan l i e)
   have H : 0 <= (gd l i).2.2 * ((gd l i).2.1 - (gd l i).1) := L1f t r
   have J : (gd l i).2.2 * ((gd l i).2.1 - (gd l i).1) <= 1000000 * 10000000 := Int.mul_le_mul u v r (by omega)
   have s := sumP_in (l.take i) fun q h => f q (L0G h)
   rw [L02] at s
   have s : 0 <= sumP (l.take i) /\ sumP (l.take i) <= 10000000000000 * 4400 := by omega
   generalize h : gd l i = q at *; obtain ⟨K, M, L⟩ := q
   simp only at *
   simp -implicitDefEqProofs (disch := omega) only [go_sem, k, d, n, h]
   refine Jad (l.length - (i + 1)) (by omega) ⟨i + 1, by omega, ?_⟩
   rw [A]; simp -implicitDefEqProofs (disch := omega) only [go_sem, k, d, n, h]; try rfl
 . obtain rfl : i = l.length := by omega
   rw [L0e] at d; simp -implicitDefEqProofs (disch := omega) only [go_sem, d, results114]
theorem amount37_ev (x : Tf) (z a b : Int) (c : JaV x = true) (d : Jbr z = true) (f : JcT a b = true) : Ev prog 68 [TF x, I z, SP2 a b] (.tup [I (amtF x z a b), I 0]) := by
 have i := good37_ev x z a b c d f
 obtain ⟨o, p, l⟩ := JdU.1 f
 have j := sum37_ev x z 0 b c d (by omega) (by omega) l
 have k := sum37_ev x z 0 a c d (by omega) (by omega) (by omega)
 have m := Jc9 c z 0 b (by omega)
 have n := Jc9 c z 0 a (by omega)
 have g : (sumF x z 0 b).tdiv 60 = sumF x z 0 b / 60 := L1j m.1
 have h : (sumF x z 0 a).tdiv 60 = sumF x z 0 a / 60 := L1j n.1
 have e : amtF x z a b = sumF x z 0 b / 60 - sumF x z 0 a / 60 := rfl
 rw [e]; generalize sumF x z 0 b = r at *; generalize sumF x z 0 a = q at *
 refine EV func68 ?_
 simp -implicitDefEqProofs (disch := omega) only [go_sem, ntmps68]
 refine Jaa i ?_
 simp -implicitDefEqProofs (disch := omega) only [go_sem]
 refine Jaa j ?_
 simp -implicitDefEqProofs (disch := omega) only [go_sem, g, h]
 refine Jaa k ?_
 simp -implicitDefEqProofs (disch := omega) only [go_sem, g, h, results68]
theorem billsR_bad (t : Tp) (g : t.ok) (h : Jb3 t = false) : Ev prog 24 [TPP t] (.tup [BLS [], I 380]) := by
 have a := tripR_ev t g; rw [h] at a
 refine JeE (r := .tup [.new 86 5 [], I 380]) ?_ _
 obtain ⟨c, d, f, j, e, i, ⟨⟨l, n, o, p⟩, m⟩, b, k⟩ := t
 try simp only at *
 refine EW [8] func24 ?_
 simp -implicitDefEqProofs (disch := omega) only [go_sem, ntmps24]
 refine Jaa a ?_
 simp -implicitDefEqProofs (disch := omega) only [go_sem, results24]
set_option maxHeartbeats 8000000 in
theorem billsR_ok (t : Tp) (y : t.ok) (h : Jb3 t = true) : Ev prog 24 [TPP t] (.tup [BLS (Jbu t), I 0]) := by
 have U := tripR_ev t y; rw [h] at U; have hl := (JaK.1 h).2.1
 obtain ⟨_, _, aa, ab, O, _, _⟩ := JaK.1 h
 have o := fun i => JiW h (i := i)
 have p := fun i F => payerR_ev t y h i F
 have v := JbK t
 have D := fun i => Jew t (i := i)
 have k : ∀ i, Jkp t i = ⟨payF t i, (gd t.legs i).t, (Jbm t (gd t.legs i)).1.1, (Jbm t (gd t.legs i)).1.2, amtF (gd t.tfs (gd t.legs i).t.toNat) (gd t.offs (gd t.legs i).t.toNat) (Jbm t (gd t.legs i)).1.1 (Jbm t (gd t.legs i)).1.2⟩ := fun i => rfl
 have c : ∀ l : Lg, legF l = true -> Ev prog 57 [CKP (gd t.cks l.f.toNat), CKP (gd t.cks l.t.toNat), LGP l, Str t.key, PTP t.part] (bi3 (Jbm t l)) := fun l G => by
  obtain ⟨⟨f1, f2, f3⟩, _⟩ := Jb4.1 G
  exact JmA _ _ l t.key t.part G y.part (y.rds _ (Jan _ _ (by omega))) (y.rds _ (Jan _ _ (by omega)))
 have J : ∀ l : Lg, JcT (Jbm t l).1.1 (Jbm t l).1.2 = true := fun l => (JnW _ _ _ l).1
 have w := y.good
 have z : ∀ n ∈ t.offs, Jbr n = true := L0c.1 O
 have K : ∀ i, i < t.legs.length -> (Jbu t).take (i + 1) = (Jbu t).take i ++ [Jkp t i] := fun i F => by
  rw [List.take_succ_eq_append_getElem (by omega)]
  have := D i F
  rw [<- this]; unfold gd; simp [v, F]
 have V : (Jbu t).length <= 1000 := by rw [v]; omega
 refine JeE (r := .tup [.new 86 5 ((Jbu t).map BLP), I 0]) ?_ _
 generalize Jbu t = L at *; generalize Jbm t = X at *; generalize Jkp t = BF at *; generalize payF t = Y at *; clear h y D
 obtain ⟨H, a, q, j, b, Q, ⟨⟨pc, pn, pr, ps⟩, pl⟩, C, R⟩ := t
 simp only at *
 refine EW [8] func24 ?_
 simp -implicitDefEqProofs (disch := omega) only [go_sem, ntmps24]
 refine Jaa U ?_
 simp -implicitDefEqProofs (disch := omega) only [go_sem]
 refine Jag (fun m E S => ∃ i : Nat, i + m = a.length /\ E 1 = .ptr 52428816 13 0 0 /\ E 4 = .own 52428864 5 0 (L.take i).length /\ E 5 = I i /\ S 52428864 = some ⟨86, 5, (L.take i).map BLP⟩ /\
  S 52428816 = some ⟨52, 13, [.agg [HPS H, LGS a, CKS q, TFS j, SL b, Str Q, I pc, I pn, Str pr, Str ps, ITS pl, Str C, SLs R]]⟩) a.length ⟨0, by omega, ?_⟩ ?_
 . simp -implicitDefEqProofs (disch := omega) only [go_sem]
   try ((repeat' apply And.intro) <;> rfl)
 rintro m E S ⟨i, F, s, e, u, g, B⟩
 simp -implicitDefEqProofs (disch := omega) only [go_sem, s, e, u, g, B]
 refine Jab (fun hc => ?_) (fun hc => ?_)
 . have x : i < a.length := by omega
   obtain ⟨N, g2, g3⟩ := o i x
   have Z := p i x; have a2 := c (gd a i) N; have a3 := J (gd a i); have T := k i; have M := K i x
   have a7 : (L.take i).length = i := by rw [L02]; omega
   obtain ⟨⟨f1, f2, f3⟩, _⟩ := Jb4.1 N
   have a5 := amount37_ev (gd j (gd a i).t.toNat) (gd b (gd a i).t.toNat) _ _ (w _ (Jan _ _ (by omega))) (z _ (Jan _ _ (by omega))) a3
   have b1 : (gd a i).f.toNat < q.length := by omega
   have b2 : (gd a i).t.toNat < q.length := by omega
   have b3 : (gd a i).t.toNat < j.length := by omega
   have b4 : (gd a i).t.toNat < b.length := by omega
   rw [T] at M; clear T k c p J o N g2 g3 K; generalize L.take i = Li at *; generalize hW : X (gd a i) = W at *; generalize Y i = P at *; generalize hA : amtF (gd j (gd a i).t.toNat) (gd b (gd a i).t.toNat) W.1.1 W.1.2 = A at *; generalize d : gd a i = l at *; obtain ⟨lf, lt, lg, lk⟩ := l
   obtain ⟨⟨w1, w2⟩, w3⟩ := W
   simp only at *
   clear hW hA; simp -implicitDefEqProofs (disch := omega) only [go_sem, s, e, u, g, B, d]
   iterate 3
    first | refine Jco Plain.mono ?_ | refine Jaa a2 ?_ | refine Jaa a5 ?_
    simp -implicitDefEqProofs (disch := omega) only [go_sem, s, e, u, g, B, d, false_and, and_self]
   refine Jaa Z ?_
   simp -implicitDefEqProofs (disch := omega) only [go_sem, s, e, u, g, B, d, false_and, and_self, L0e]
   refine Jad (a.length - (i + 1)) (by omega) ⟨i + 1, by omega, ?_⟩
   rw [M]; simp -implicitDefEqProofs (disch := omega) only [go_sem, s, e, u, g, B, M, L07, L0e]; try rfl
 . obtain rfl : i = a.length := by omega
   rw [<- v, L0e] at e g; simp -implicitDefEqProofs (disch := omega) only [go_sem, e, g, L0e, results24]; try rfl
theorem bent_ok (t : Tp) (a b c : Int) (ht : t.ok) (hl : t.legs.length <= 1000) : (bentF t a b c).ok := by
  unfold bentF
  split
  . refine ⟨ht.part, ht.rds, ht.good, ht.hops, ?_, ht.cks, ht.tfs, ht.offs, ht.ups⟩
    simp only
    repeat' split
    all_goals simp only [L24, L07, L0h, L0t]; omega
  split
  . exact ⟨ht.part, ht.rds, ht.good, by simpa using ht.hops, ht.legs, ht.cks, ht.tfs, ht.offs, ht.ups⟩
  split
  . exact ⟨ht.part, ht.rds, ht.good, by simpa using ht.hops, ht.legs, ht.cks, ht.tfs, ht.offs, ht.ups⟩
  split
  . exact ⟨ht.part, ht.rds, ht.good, ht.hops, ht.legs, ht.cks, ht.tfs, by simpa using ht.offs, ht.ups⟩
  split
  . exact ⟨ht.part, ht.rds, ht.good, ht.hops, ht.legs, ht.cks, ht.tfs, ht.offs, ht.ups⟩
  split
  . exact ⟨ht.part, ht.rds, ht.good, ht.hops, ht.legs, ht.cks, ht.tfs, ht.offs, by have := ht.ups; simp only [L02]; omega⟩
  . exact ⟨ht.part, fun c hc => ht.rds c (L0G hc), ht.good, ht.hops, ht.legs, by have := ht.cks; simp only [L02]; omega, ht.tfs, ht.offs, ht.ups⟩
theorem bills_both (t : Tp) (a : t.ok) : ∃ L e, L.length <= 1000 /\ Ev prog 23 [TPP t] (.tup [BLS L, I e]) /\ Ev prog 24 [TPP t] (.tup [BLS L, I e]) := by
 cases h : Jb3 t with
 | true =>
  refine ⟨_, _, ?_, Jjc t a h, billsR_ok t a h⟩
  have := (JaK.1 h).2.1
  rw [JbK]; omega
 | false => exact ⟨[], 380, L13 _, JmB t a h, billsR_bad t a h⟩
theorem pay_both (t : Tp) (c : t.ok) (i : Int) : ∃ v e, Ev prog 26 [TPP t, I i] (.tup [I v, I e]) /\ Ev prog 27 [TPP t, I i] (.tup [I v, I e]) := by
 have b := JjS t c i; have a := payR_ev t c i; unfold payV at b a
 split at b
 . rename_i h; rw [if_pos h] at a
   exact ⟨_, _, b, a⟩
 . rename_i h; rw [if_neg h] at a
   exact ⟨_, _, b, a⟩
section
variable (p : Nat -> Bool) (l : List Tp)
@[go_sem] theorem namesL_TPP : AV.namesL p (l.map TPP) = false := Jam p l TPP fun _ => by simp only [go_sem]
@[go_sem] theorem allOK_TPP : JbH 13 (l.map TPP) = true := JaD 13 l TPP fun _ => ⟨rfl, rfl⟩
end
theorem dn_TPP (t : Tp) : (TPP t).dn = false := by
 have a : AV.dnL (t.hops.map HPP) = false := JbA HPP (fun x => by simp only [AV.dn, AV.dnL, L15]) _
 have b : AV.dnL (t.legs.map LGP) = false := JbA LGP (fun x => by simp only [AV.dn, AV.dnL, L15]) _
 have c : AV.dnL (t.cks.map CKP) = false := JbA CKP Jct _
 have d : AV.dnL (t.tfs.map TF) = false := JbA TF Jxe _
 have e : AV.dnL (t.part.l.map ITP) = false := JbA ITP (fun x => by simp only [AV.dn, AV.dnL, JbA _ (fun x => AV.dn.eq_2 _), L15]) _
 have f : AV.dnL (t.ups.map Str) = false := JbA Str (fun x => AV.dn.eq_2 _) _
 simp only [AV.dn, AV.dnL, a, b, c, d, e, f, Jxd, L15]
instance : Inhabited Tp := ⟨⟨[], [], [], [], [], .empty, ⟨⟨0, 0, .empty, .empty⟩, []⟩, .empty, []⟩⟩
set_option maxHeartbeats 8000000 in
theorem trips_ev (x : Nm) (a b c q : Int) (hx : x.ok) (ha : R64 a) (hb : R64 b) (hc : R64 c) (hq : R64 q) : Ev prog 4 [NMP x, .agg [I a, I b, I c], I q] (B true) := by
 have d0 := Jux; have d1 := JgL x hx; have ht := JgK x hx; have hv := Ja8 x; generalize Jaw x = t at *; have d2 := bent_ev t a b c ht hv ha hb hc; have hlen := (JaK.1 hv).2.1
 have ht2 := bent_ok t a b c ht (by omega)
 generalize bentF t a b c = u at *
 have d3 := Jry q 7 hq (by omega)
 have hall : ∀ y ∈ [t, u], y.ok := fun y hy => by
  rcases L0i.1 hy with rfl | hy
  . exact ht
  . rcases L0i.1 hy with rfl | hy
    . exact ht2
    . cases hy
 have hqm : [AV.v (.int .i64 q), AV.v (.int .i64 (Jaf q 7)), AV.v (.int .i64 (-1))] = [q, Jaf q 7, -1].map I := rfl
 have hql : ([q, Jaf q 7, -1] : List Int).length = 3 := rfl
 have hT : [TPP t, TPP u] = [t, u].map TPP := rfl
 have hTl : ([t, u] : List Tp).length = 2 := rfl
 obtain ⟨xh, xl, xc, xb, xr, xo, xw⟩ := x
 refine EV func4 ?_
 simp -implicitDefEqProofs (disch := omega) only [go_sem, ntmps4]
 iterate 3
  first | refine Jaa d0 ?_ | refine Jaa d1 ?_ | refine Jaa d2 ?_ (h4 := .inr (dn_TPP u))
  simp -implicitDefEqProofs (disch := omega) only [go_sem]
 generalize hlt : [t, u] = lt at *; generalize hlq : [q, Jaf q 7, -1] = lq at *
 refine Jag (fun m E σ => ∃ i : Nat, i + m = 2 /\ E 2 = I q /\ E 7 = B true /\ E 35 = .own 10486320 13 0 2 /\ E 36 = I 2 /\ E 37 = I i /\ σ 10486320 = some ⟨52, 13, lt.map TPP⟩) 2 ⟨0, by omega, ?_⟩ ?_
 . rw [<- hT]; simp -implicitDefEqProofs (disch := omega) only [go_sem]
   try ((repeat' apply And.intro) <;> rfl)
 rintro m E σ ⟨i, hi, e2, e7, e35, e36, e37, m35⟩
 simp -implicitDefEqProofs (disch := omega) only [go_sem, e2, e7, e35, e36, e37, m35]
 refine Jab (fun hc => ?_) (fun hc => ?_)
 rotate_left
 . simp -implicitDefEqProofs (disch := omega) only [go_sem, e7, results4]
 have hil : i < lt.length := by omega
 have hok := hall _ (Jan lt i hil)
 obtain ⟨L, e, hLl, b1, b2⟩ := bills_both _ hok
 have b3 := sameBills_ev L (by omega)
 have p1 := fun v => pay_both _ hok v
 simp -implicitDefEqProofs (disch := omega) only [go_sem, e2, e7, e35, e36, e37, m35]
 refine Jaa b1 ?_
 simp -implicitDefEqProofs (disch := omega) only [go_sem, e2, e7, e35, e36, e37, m35]
 refine Jaa b2 ?_
 simp -implicitDefEqProofs (disch := omega) only [go_sem, e2, e7, e35, e36, e37, m35, bne_self_eq_false]
 try (refine Jab (fun h => absurd rfl h) (fun h => ?_); simp -implicitDefEqProofs (disch := omega) only [go_sem, e2, e7, e35, e36, e37, m35, bne_self_eq_false])
 iterate 2
  first | refine Jaa b3 ?_ | refine Jaa d3 ?_
  simp -implicitDefEqProofs (disch := omega) only [go_sem, e2, e7, e35, e36, e37, m35]
 clear d3 b1 b2 b3
 refine Jag (fun m E σ => ∃ j : Nat, j + m = 3 /\ E 2 = I q /\ E 7 = B true /\ E 10 = .ptr 10485920 13 0 0 /\ E 35 = .own 10486320 13 0 2 /\ E 36 = I 2 /\ E 37 = I i /\ E 63 = .own 10486768 1 0 3 /\ E 64 = I 3 /\ E 65 = I j /\
  σ 10486320 = some ⟨52, 13, lt.map TPP⟩ /\ σ 10485920 = some ⟨52, 13, [TPP (gd lt i)]⟩ /\ σ 10486768 = some ⟨3, 1, lq.map I⟩) 3 ⟨0, by omega, ?_⟩ ?_
 . rw [<- hqm]; simp -implicitDefEqProofs (disch := omega) only [go_sem, e2, e7, e35, e36, e37, m35]
   try ((repeat' apply And.intro) <;> rfl)
 clear e2 e7 e35 e36 e37 m35 E σ
 rintro m' E σ ⟨j, hj, e2, e7, e10, e35, e36, e37, e63, e64, e65, m35, m10, m63⟩
 simp -implicitDefEqProofs (disch := omega) only [go_sem, e2, e7, e10, e35, e36, e37, e63, e64, e65, m35, m10, m63]
 refine Jab (fun hc2 => ?_) (fun hc2 => ?_)
 rotate_left
 . simp -implicitDefEqProofs (disch := omega) only [go_sem, e2, e7, e35, e36, e37, m35]
   refine Jad (2 - (i + 1)) (by omega) ⟨i + 1, by omega, ?_⟩
   simp -implicitDefEqProofs (disch := omega) only [go_sem, e2, e7, e35, e36, e37, m35]; try rfl
 have hjl : j < lq.length := by omega
 obtain ⟨v, e', c1, c2⟩ := p1 (gd lq j)
 simp -implicitDefEqProofs (disch := omega) only [go_sem, e2, e7, e10, e35, e36, e37, e63, e64, e65, m35, m10, m63]
 refine Jaa c1 ?_
 simp -implicitDefEqProofs (disch := omega) only [go_sem, e2, e7, e10, e35, e36, e37, e63, e64, e65, m35, m10, m63]
 refine Jaa c2 ?_
 simp -implicitDefEqProofs (disch := omega) only [go_sem, e2, e7, e10, e35, e36, e37, e63, e64, e65, m35, m10, m63, bne_self_eq_false]
 try (refine Jab (fun h => absurd rfl h) (fun h => ?_); simp -implicitDefEqProofs (disch := omega) only [go_sem, e2, e7, e10, e35, e36, e37, e63, e64, e65, m35, m10, m63, bne_self_eq_false])
 try (refine Jab (fun h => absurd rfl h) (fun h => ?_); simp -implicitDefEqProofs (disch := omega) only [go_sem, e2, e7, e10, e35, e36, e37, e63, e64, e65, m35, m10, m63, bne_self_eq_false])
 refine Jad (3 - (j + 1)) (by omega) ⟨j + 1, by omega, ?_⟩
 simp -implicitDefEqProofs (disch := omega) only [go_sem, e2, e7, e10, e35, e36, e37, e63, e64, e65, m35, m10, m63]; try rfl
theorem legTripsMatchReference_lifted (os : Os) (a : os.Started) (H : Type) (enc : TypeId × Value -> H) :
 ReturnsInHanded {} Tryz.checked os 4 .any (fun w b => (Rows.legTripsMatchReferenceSpec.pre enc prog Tryz.f4 [] false w b /\ laidMetH prog JmZ w) /\ sizedMet enc prog Tryz.f4 (OpenSpec.ofChange Rows.legTripsMatchReferenceSpec) false w b)
  (Rows.legTripsMatchReferenceSpec.post enc prog Tryz.f4 false true false false) :=
 Jt6 (C := Tryz.checked) (tb := 4) (ps := [ON, OT, OI]) (X := fun w _ => laidMetH prog JmZ w) (fun _ _ _ l h => h.of_heap l) own3 a (by kernel_rfl) func4
  (ChangeSpec.witness_shaped (enc := enc) (C := Tryz.checked) (os := os) (X := fun w _ => laidMetH prog JmZ w) false (World.doorLaid prog 14 os) #[.agg #[.slice none 0 0, .slice none 0 0, .slice none 0 0, .slice none 0 0, .slice none 0 0, .slice none 0 0, .slice none 0 0], .agg #[.int .i64 0, .int .i64 0, .int .i64 0], .int .i64 0] 8 rfl (World.shaped_of_RefB (by kernel_rfl) (by kernel_rfl)) (by kernel_rfl) (by kernel_rfl) (by kernel_rfl) (JqV os _))
  Jq7 (by kernel_rfl) (by kernel_rfl) (by kernel_rfl) rfl (JB6 fun _ _ _ => rfl)
  (fun w => ⟨Jpe, Jpf, JkY (by kernel_rfl), trivial⟩)
  (Jwz fun r s t i j k => by
   obtain ⟨m, c, rfl⟩ := i; obtain ⟨n, p, q, d, f, g, rfl⟩ := j; obtain ⟨o, e, rfl⟩ := k
   exact trips_ev m n p q o c d f g e)
  (fun _ _ h => gok h)
theorem and2 {a b : Bool} (c : a = true) (d : b = true) : (a && b) = true := by rw [c, d]; rfl
set_option maxHeartbeats 16000000 in
theorem legTripsMatchReference_closed : joinedFacts Tryz.checked.prog 4 Tryz.f4 Rows.legTripsMatchReferenceSpec Rows.legTripsMatchReferenceRow = true := by
 unfold joinedFacts
 with_reducible repeat' refine and2 ?_ ?_
 all_goals as_aux_lemma => kernel_rfl
theorem legTripsMatchReference_row : Rows.LegTripsMatchReferenceSaid :=
 OpenClaim.holds_of_wide 4 Tryz.f4 rfl rfl rfl rfl rfl rfl rfl ⟨rfl, rfl, rfl, rfl, rfl⟩ rfl rfl rfl rfl rfl (by kernel_rfl) func4 legTripsMatchReference_closed
  (of_decide_eq_true (by kernel_rfl)) (by unfold Func.isWrapper; first | (rw [if_pos (by decide +kernel)]; kernel_rfl) | (rw [if_neg (by decide +kernel)]; exact ⟨rfl, rfl⟩))
  (fun c a H b _ => legTripsMatchReference_lifted c a H b)
theorem legTripsMatchReference_holds : Rows.LegTripsMatchReferenceCardSaid :=
 Claim7.holds_tied_plain_at .later [] [.data] true (true, "43ff5d6d438086e88ed6ccc25955440aba0cd482b19469407fb38ba16744b6d5") false
  legTripsMatchReference_row (fun _ h => by cases h) (by kernel_rfl) (fun _ h => by cases h) legTripsMatchReference_row_tie rfl ⟨rfl, rfl⟩ (by kernel_rfl) rfl
  (fun f fn hf hfn => by
   obtain rfl : f = 4 := Option.some.inj ((show prog.funcNamed "dialtone/dialtonelaw38.LegTripsMatchReference" = some 4 by kernel_rfl).symm.trans hf) |>.symm
   obtain rfl : fn = Tryz.f4 := (Option.some.inj (func4.symm.trans hfn)).symm
   exact ⟨by kernel_rfl, fun j t ht => by
    rw [Tryz.params4] at ht
    rcases j with _ | j
    . obtain rfl : t = 28 := by simpa using ht.symm
      exact (show prog.wantsStandIn 28 = false by kernel_rfl)
    rcases j with _ | j
    . obtain rfl : t = 29 := by simpa using ht.symm
      exact (show prog.wantsStandIn 29 = false by kernel_rfl)
    rcases j with _ | j
    . obtain rfl : t = 3 := by simpa using ht.symm
      exact (show prog.wantsStandIn 3 = false by kernel_rfl)
    simp at ht⟩)
  (by kernel_rfl)
#print axioms legTripsMatchReference_holds
end Go.Proofs.YtnpbhgeffapojaaGreatDoor

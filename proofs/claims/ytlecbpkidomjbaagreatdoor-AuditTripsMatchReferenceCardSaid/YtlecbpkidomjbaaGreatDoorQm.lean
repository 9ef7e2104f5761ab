/- Chapter 40, AuditTripsMatchReference: Charged agrees with the reference implementation: a trip that integers determine, also with something changed; a customer, as it is, and put into bounds; a text, cut to 101 bytes. Conditions: the package variable digest.round reads as the program's text lays it (tied). -/
import Derived.Test.YtlecbpkidomjbaaGreatDoorKJ
set_option linter.all false
set_option maxRecDepth 100000
namespace Go.Proofs.YtlecbpkidomjbaaGreatDoor
open Go.Proofs.Tryz
open Go.Vai Go Go.Proofs Go.RowKit
section
variable {H : Type} {enc : TypeId × Value -> H} {w : World}
theorem o_str : Jb6 prog enc w 9 OS :=
 (JkE (by kernel_rfl)).mono (λ a ⟨s, h, e⟩ => ⟨s, h, e⟩) λ a ⟨s, h, e⟩ => ⟨s, h, e⟩
end
open Go.Vai Go Go.Proofs
theorem in37_ev (n a b : Int) : Ev prog 133 [I n, I a, I b] (B (decide (a <= n /\ n <= b))) := by
 refine EV func133 ?_
 simp -implicitDefEqProofs (disch := omega) only [go_sem, ntmps133]
 refine Jab (λ c => ?_) (λ c => ?_)
 . simp -implicitDefEqProofs (disch := omega) only [go_sem, c, results133]
   try simp [c]
 . simp -implicitDefEqProofs (disch := omega) only [go_sem, c, results133]
   try simp [c]
theorem zone37_ev (z : Int) : Ev prog 136 [I z] (B (Jbw z)) := by
 refine EV func136 ?_
 simp -implicitDefEqProofs (disch := omega) only [go_sem, ntmps136]
 refine Jaa (in37_ev z (-50400) 50400) ?_
 simp -implicitDefEqProofs (disch := omega) only [go_sem, results136]; try rfl
theorem spell37_ev (a b : Int) (h : Jda a b = true) : Ev prog 137 [SP2 a b] (B true) := by
 obtain ⟨c, d, e⟩ := Jdb.1 h
 refine EV func137 ?_
 simp -implicitDefEqProofs (disch := omega) only [go_sem, ntmps137]
 refine Ja0 c ?_
 simp -implicitDefEqProofs (disch := omega) only [go_sem]
 refine Ja0 d ?_
 simp -implicitDefEqProofs (disch := omega) only [go_sem, results137, decide_eq_true e]
theorem on37_ev (x : Tf) (d s : Int) (h : JaT x = true) (U : 0 <= d /\ d < 7) (W : 0 <= s /\ s < 86400) : Ev prog 163 [TF x, I d, I s] (I (JcT x (d * 86400 + s))) := by
 obtain ⟨⟨R, S, T⟩, H⟩ := Ja9.1 h
 have o : JcT x (d * 86400 + s) = (match (x.l.drop 0).find? (hitR (d * 86400 + s)) with | some r => r.p | none => x.b) := rfl
 have L : ∀ r, hitR (d * 86400 + s) r = decide (r.d / 2 ^ d.toNat % 2 = 1 /\ r.f <= s /\ s < r.t) := λ r => by
  unfold hitR
  rw [show (d * 86400 + s) / 86400 = d by omega, show (d * 86400 + s) % 86400 = s by omega]
 generalize hitR (d * 86400 + s) = Q at *; generalize JcT x (d * 86400 + s) = z at *
 have J : ∀ r, Jkh r = true -> (r.d.fdiv (2 ^ min d.toNat 64)).tmod 2 = r.d / 2 ^ d.toNat % 2 := λ r o => by
  have C := Jbm.1 o
  rw [L0N (by omega), L1D _ (Int.le_of_lt (Int.pow_pos (by omega))), L0Z (L1j (by omega) (Int.le_of_lt (Int.pow_pos (by omega))))]
 obtain ⟨a, y⟩ := x
 simp only at *
 refine EV func163 ?_
 simp -implicitDefEqProofs (disch := omega) only [go_sem, ntmps163]
 refine Jaf (λ k E F => ∃ i : Nat, i + k = a.length /\ z = (match (a.drop i).find? Q with | some r => r.p | none => y) /\ E 1 = I d /\ E 2 = I s /\ E 3 = .ptr 343932976 2 0 0 /\ E 7 = I i /\ F 343932976 = some ⟨100, 2, [.agg [TS a, I y]]⟩) a.length ⟨0, by omega, o, ?_⟩ ?_
 . simp -implicitDefEqProofs (disch := omega) only [go_sem]; try rfl
 rintro k E F ⟨i, V, q, g, j, c, m, e⟩
 simp -implicitDefEqProofs (disch := omega) only [go_sem, g, j, c, m, e]
 refine Jab (λ K => ?_) (λ K => ?_)
 . have D : i < a.length := by omega
   have C := H _ (Jaj a i D); have u := J _ C; rw [JaD a i D, L2e, L] at q; generalize o : gd a i = r at *; obtain ⟨M, N, P, O⟩ := r
   simp only at *
   simp -implicitDefEqProofs (disch := omega) only [go_sem, g, j, c, m, e, o, u]
   have n : decide (M / 2 ^ d.toNat % 2 = 1 /\ N <= s /\ s < P) = false -> z = (match (a.drop (i + 1)).find? Q with | some r => r.p | none => y) := λ G => by rw [G] at q; exact q
   refine Jab (λ w => ?_) (λ w => ?_)
   . simp -implicitDefEqProofs (disch := omega) only [go_sem, g, j, c, m, e, o, u, w]
     refine Jab (λ A => ?_) (λ A => ?_)
     . simp -implicitDefEqProofs (disch := omega) only [go_sem, g, j, c, m, e, o, u, w]
       refine Jab (λ B => ?_) (λ B => ?_)
       . rw [decide_eq_true ⟨w, A, B⟩] at q
         have q : z = O := q
         simp -implicitDefEqProofs (disch := omega) only [go_sem, g, j, c, m, e, o, u, q, results163]
       . simp -implicitDefEqProofs (disch := omega) only [go_sem, g, j, c, m, e, o]
         refine Jad (a.length - (i + 1)) (by omega) ⟨i + 1, by omega, n (decide_eq_false λ h => B h.2.2), ?_⟩
         simp -implicitDefEqProofs (disch := omega) only [go_sem, g, j, c, m, e]; try rfl
     . simp -implicitDefEqProofs (disch := omega) only [go_sem, g, j, c, m, e, o]
       refine Jad (a.length - (i + 1)) (by omega) ⟨i + 1, by omega, n (decide_eq_false λ h => A h.2.1), ?_⟩
       simp -implicitDefEqProofs (disch := omega) only [go_sem, g, j, c, m, e]; try rfl
   . simp -implicitDefEqProofs (disch := omega) only [go_sem, g, j, c, m, e, o]
     refine Jad (a.length - (i + 1)) (by omega) ⟨i + 1, by omega, n (decide_eq_false λ h => w h.1), ?_⟩
     simp -implicitDefEqProofs (disch := omega) only [go_sem, g, j, c, m, e]; try rfl
 . obtain rfl : i = a.length := by omega
   rw [L0H] at q
   have q : z = y := q
   simp -implicitDefEqProofs (disch := omega) only [go_sem, c, e, q, results163]
set_option maxHeartbeats 2000000 in
theorem validR37_ev (x : Tf) (h : JaT x = true) : Ev prog 99 [TF x] (B true) := by
 obtain ⟨⟨o, p, C⟩, q⟩ := Ja9.1 h
 obtain ⟨d, f⟩ := x
 simp only at *
 refine EV func99 ?_
 simp -implicitDefEqProofs (disch := omega) only [go_sem, ntmps99]
 refine Jaa (in37_ev f 0 1000000) ?_
 rw [decide_eq_true ⟨o, p⟩]; simp -implicitDefEqProofs (disch := omega) only [go_sem]
 refine Jam (by omega) ?_
 simp -implicitDefEqProofs (disch := omega) only [go_sem]
 refine Jaf (λ k E g => ∃ i : Nat, i + k = d.length /\ E 1 = .ptr 209715216 2 0 0 /\ E 3 = I i /\ g 209715216 = some ⟨100, 2, [.agg [TS d, I f]]⟩) d.length ⟨0, by omega, ?_⟩ ?_
 . simp -implicitDefEqProofs (disch := omega) only [go_sem]; try rfl
 rintro k E g ⟨i, D, a, b, c⟩
 simp -implicitDefEqProofs (disch := omega) only [go_sem, a, b, c]
 refine Jab (λ s => ?_) (λ s => ?_)
 . have t : i < d.length := by omega
   obtain ⟨j, l, y, z, A, m, n⟩ := Jbm.1 (q _ (Jaj d i t))
   generalize e : gd d i = r at *; obtain ⟨u, F, G, w⟩ := r
   simp only at *
   simp -implicitDefEqProofs (disch := omega) only [go_sem, a, b, c, e]
   refine Jaa (in37_ev u 1 127) ?_
   rw [decide_eq_true ⟨j, l⟩]; simp -implicitDefEqProofs (disch := omega) only [go_sem, a, b, c, e]
   refine Jam (by omega) ?_
   simp -implicitDefEqProofs (disch := omega) only [go_sem, a, b, c, e]
   refine Jam (by omega) ?_
   simp -implicitDefEqProofs (disch := omega) only [go_sem, a, b, c, e]
   refine Jam (by omega) ?_
   simp -implicitDefEqProofs (disch := omega) only [go_sem, a, b, c, e]
   refine Jaa (in37_ev w 0 1000000) ?_
   rw [decide_eq_true ⟨m, n⟩]; simp -implicitDefEqProofs (disch := omega) only [go_sem, a, b, c, e]
   refine Jad (d.length - (i + 1)) (by omega) ⟨i + 1, by omega, ?_⟩
   simp -implicitDefEqProofs (disch := omega) only [go_sem, a, b, c]; try rfl
 . obtain rfl : i = d.length := by omega
   simp -implicitDefEqProofs (disch := omega) only [go_sem, results99]
theorem good37_ev (x : Tf) (z a b : Int) (h : JaT x = true) (g : Jbw z = true) (f : Jda a b = true) : Ev prog 104 [TF x, I z, SP2 a b] (B true) := by
 have d := validR37_ev x h; have c := zone37_ev z; have e := spell37_ev a b f; rw [g] at c
 refine EV func104 ?_
 simp -implicitDefEqProofs (disch := omega) only [go_sem, ntmps104]
 refine Jaa d ?_
 simp -implicitDefEqProofs (disch := omega) only [go_sem]
 refine Jaa c ?_
 simp -implicitDefEqProofs (disch := omega) only [go_sem]
 refine Jaa e ?_
 simp -implicitDefEqProofs (disch := omega) only [go_sem, results104]
def bentF (t : Tp) (a b c : Int) : Tp :=
 if 6 <= Jag a 12 /\ 0 < t.legs.length then
  { t with legs := (
   if Jag a 12 = 6 then t.legs.set (Jag c t.legs.length).toNat { gd t.legs (Jag c t.legs.length).toNat with f := b }
   else if Jag a 12 = 7 then t.legs.set (Jag c t.legs.length).toNat { gd t.legs (Jag c t.legs.length).toNat with t := b }
   else if Jag a 12 = 8 then t.legs.set (Jag c t.legs.length).toNat { gd t.legs (Jag c t.legs.length).toNat with g := ⟨b, (gd t.legs (Jag c t.legs.length).toNat).g.e⟩ }
   else if Jag a 12 = 9 then t.legs.set (Jag c t.legs.length).toNat { gd t.legs (Jag c t.legs.length).toNat with g := ⟨(gd t.legs (Jag c t.legs.length).toNat).g.b, b⟩ }
   else if Jag a 12 = 10 then t.legs.set (Jag c t.legs.length).toNat { gd t.legs (Jag c t.legs.length).toNat with k := ⟨(gd t.legs (Jag c t.legs.length).toNat).k.b, b⟩ }
   else t.legs ++ [gd t.legs (Jag c t.legs.length).toNat]) }
 else if Jag a 12 = 0 then { t with hops := t.hops.set (Jag c t.hops.length).toNat (b, (gd t.hops (Jag c t.hops.length).toNat).2) }
 else if Jag a 12 = 1 then { t with hops := t.hops.set (Jag c t.hops.length).toNat ((gd t.hops (Jag c t.hops.length).toNat).1, b) }
 else if Jag a 12 = 2 then { t with offs := t.offs.set (Jag c 8).toNat b }
 else if Jag a 12 = 3 then { t with key := keyF (1 + Jag b 7) }
 else if Jag a 12 = 4 then { t with ups := t.ups.take (Jag c t.ups.length).toNat }
 else { t with cks := t.cks.take 7 }
@[go_sem] theorem append_HPP0 (l : List (Int × Int)) : ([] : List AV) ++ l.map HPP = l.map HPP := L1T _
@[go_sem] theorem set_HPP (l : List (Int × Int)) (n : Nat) (a b : Int) : (l.map HPP).set n (.agg [.v (.int .i64 a), .v (.int .i64 b)]) = (l.set n (a, b)).map HPP := by rw [List.map_set]
@[go_sem] theorem set_LGP (l : List Lg) (n : Nat) (a b c d e f : Int) : (l.map LGP).set n (.agg [.v (.int .i64 a), .v (.int .i64 b), .v (.int .i64 c), .v (.int .i64 d), .v (.int .i64 e), .v (.int .i64 f)]) = (l.set n (⟨a, b, ⟨c, d⟩, ⟨e, f⟩⟩ : Lg)).map LGP := by rw [List.map_set]
@[go_sem] theorem append_LGPb (l : List Lg) (a b c d e f : Int) : l.map LGP ++ [.agg [.v (.int .i64 a), .v (.int .i64 b), .v (.int .i64 c), .v (.int .i64 d), .v (.int .i64 e), .v (.int .i64 f)]] = (l ++ [(⟨a, b, ⟨c, d⟩, ⟨e, f⟩⟩ : Lg)]).map LGP := by simp
set_option maxHeartbeats 8000000 in
theorem bent_ev (t : Tp) (a b c : Int) (ht : t.ok) (h : JbA t = true) (V : R64 a) (W : R64 b) (w : R64 c) : Ev prog 7 [TPP t, I a, I b, I c] (TPP (bentF t a b c)) := by
 obtain ⟨_, ⟨hh, hl, X, Z, Y, ab⟩, _⟩ := Jaz.1 h
 have hu : 0 < t.ups.length := by have := Jfp h (i := 0) (by omega); omega
 have N := Jax c t.hops.length w (by omega)
 have p1 := Jai (c := c) (n := t.hops.length) (by omega)
 have O := Jax a 12 V (by omega)
 have p2 := Jai (c := a) (n := 12) (by omega)
 have P := λ (h : 0 < t.legs.length) => Jax c t.legs.length w (by omega)
 have p3 := λ (h : 0 < t.legs.length) => Jai (c := c) (n := t.legs.length) (by omega)
 have Q := Jax c 8 w (by omega)
 have p4 := Jai (c := c) (n := 8) (by omega)
 have R := Jax b 7 W (by omega)
 have p5 := Jai (c := b) (n := 7) (by omega)
 have S := Jt1 (1 + Jag b 7) (by omega)
 have U := Jax c t.ups.length w (by omega)
 have p7 := Jai (c := c) (n := t.ups.length) (by omega)
 have d := (rfl : bentF t a b c = bentF t a b c)
 conv at d => rhs; unfold bentF
 generalize bentF t a b c = T at *; generalize Jag a 12 = k at *; generalize Jag c t.hops.length = i1 at *; generalize Jag c t.legs.length = j at *; generalize Jag c 8 = o at *; generalize Jag c t.ups.length = u at *; generalize Jag b 7 = q at *
 obtain ⟨f, e, M, ad, g, ac, ⟨⟨pc, pn, pr, ps⟩, pl⟩, K, J⟩ := t
 simp only at *
 clear h
 have hi : i1.toNat < f.length := by omega
 have ho : o.toNat < g.length := by omega
 have aa : u.toNat < J.length := by omega
 have l : ∀ n x, (e.set n x).take e.length = e.set n x := λ n x => L03 (by rw [L24]; exact L09 _)
 have m : ∀ n x, (f.set n x).take f.length = f.set n x := λ n x => L03 (by rw [L24]; exact L09 _)
 have p : ∀ n x, (g.set n x).take g.length = g.set n x := λ n x => L03 (by rw [L24]; exact L09 _)
 refine EW [20, 33] func7 ?_
 simp (maxSteps := 4000000) -implicitDefEqProofs (disch := omega) only [go_sem, ntmps7, false_and, and_self]
 refine Jaa N ?_
 simp -implicitDefEqProofs (disch := omega) only [go_sem, false_and, and_self]
 refine Jaa O ?_
 simp -implicitDefEqProofs (disch := omega) only [go_sem, false_and, and_self]
 refine Jab (λ H => ?_) (λ H => ?_)
 . simp -implicitDefEqProofs (disch := omega) only [go_sem, false_and, and_self]
   refine Jab (λ L => ?_) (λ L => ?_)
   . have s : 0 < e.length := by omega
     rw [if_pos ⟨H, s⟩] at d; have pj := p3 s
     have hj : j.toNat < e.length := by omega
     simp -implicitDefEqProofs (disch := omega) only [go_sem, false_and, and_self]
     refine Jaa (P s) ?_
     simp -implicitDefEqProofs (disch := omega) only [go_sem, false_and, and_self]
     refine Jab (λ D => ?_) (λ D => ?_)
     . rw [if_pos D] at d; simp -implicitDefEqProofs (disch := omega) only [go_sem, false_and, and_self]
       refine Jap Plain.mono [16777408, 16777488, 16777568] ?_
       simp -implicitDefEqProofs (disch := omega) only [go_sem, false_and, and_self, d, L24, L0b, l, m, p, results7]; try rfl
     . rw [if_neg D] at d; simp -implicitDefEqProofs (disch := omega) only [go_sem, false_and, and_self]
       refine Jab (λ E => ?_) (λ E => ?_)
       . rw [if_pos E] at d; simp -implicitDefEqProofs (disch := omega) only [go_sem, false_and, and_self]
         refine Jap Plain.mono [16777408, 16777488, 16777568] ?_
         simp -implicitDefEqProofs (disch := omega) only [go_sem, false_and, and_self, d, L24, L0b, l, m, p, results7]; try rfl
       . rw [if_neg E] at d; simp -implicitDefEqProofs (disch := omega) only [go_sem, false_and, and_self]
         refine Jab (λ F => ?_) (λ F => ?_)
         . rw [if_pos F] at d; simp -implicitDefEqProofs (disch := omega) only [go_sem, false_and, and_self]
           refine Jap Plain.mono [16777408, 16777488, 16777568] ?_
           simp -implicitDefEqProofs (disch := omega) only [go_sem, false_and, and_self, d, L24, L0b, l, m, p, results7]; try rfl
         . rw [if_neg F] at d; simp -implicitDefEqProofs (disch := omega) only [go_sem, false_and, and_self]
           refine Jab (λ G => ?_) (λ G => ?_)
           . rw [if_pos G] at d; simp -implicitDefEqProofs (disch := omega) only [go_sem, false_and, and_self]
             refine Jap Plain.mono [16777408, 16777488, 16777568] ?_
             simp -implicitDefEqProofs (disch := omega) only [go_sem, false_and, and_self, d, L24, L0b, l, m, p, results7]; try rfl
           . rw [if_neg G] at d; simp -implicitDefEqProofs (disch := omega) only [go_sem, false_and, and_self]
             refine Jab (λ r => ?_) (λ r => ?_)
             . rw [if_pos r] at d; simp -implicitDefEqProofs (disch := omega) only [go_sem, false_and, and_self]
               refine Jap Plain.mono [16777408, 16777488, 16777568] ?_
               simp -implicitDefEqProofs (disch := omega) only [go_sem, false_and, and_self, d, L24, L0b, l, m, p, results7]; try rfl
             . rw [if_neg r] at d; simp -implicitDefEqProofs (disch := omega) only [go_sem, false_and, and_self]
               refine Jap Plain.mono [16777408, 16777488, 16777568] ?_
               simp -implicitDefEqProofs (disch := omega) only [go_sem, false_and, and_self, d, L24, L0b, l, m, p, results7]; try rfl
   . rw [if_neg (λ h => L (by omega)), if_neg (by omega), if_neg (by omega), if_neg (by omega), if_neg (by omega), if_neg (by omega)] at d
     simp -implicitDefEqProofs (disch := omega) only [go_sem, false_and, and_self]
     refine Jam (by omega) ?_
     simp -implicitDefEqProofs (disch := omega) only [go_sem, false_and, and_self]
     refine Jam (by omega) ?_
     simp -implicitDefEqProofs (disch := omega) only [go_sem, false_and, and_self]
     refine Jam (by omega) ?_
     simp -implicitDefEqProofs (disch := omega) only [go_sem, false_and, and_self]
     refine Jam (by omega) ?_
     simp -implicitDefEqProofs (disch := omega) only [go_sem, false_and, and_self]
     refine Jam (by omega) ?_
     simp -implicitDefEqProofs (disch := omega) only [go_sem, false_and, and_self]
     refine Jap Plain.mono [16777408, 16777488, 16777568] ?_
     simp -implicitDefEqProofs (disch := omega) only [go_sem, false_and, and_self, d, L24, L0b, l, m, p, results7]; try rfl
 . rw [if_neg (λ h => H h.1)] at d
   simp -implicitDefEqProofs (disch := omega) only [go_sem, false_and, and_self]
   refine Jab (λ y => ?_) (λ y => ?_)
   . rw [if_pos y] at d; simp -implicitDefEqProofs (disch := omega) only [go_sem, false_and, and_self]
     refine Jap Plain.mono [16777408, 16777488, 16777568] ?_
     simp -implicitDefEqProofs (disch := omega) only [go_sem, false_and, and_self, d, L24, L0b, l, m, p, results7]; try rfl
   . rw [if_neg y] at d; simp -implicitDefEqProofs (disch := omega) only [go_sem, false_and, and_self]
     refine Jab (λ z => ?_) (λ z => ?_)
     . rw [if_pos z] at d; simp -implicitDefEqProofs (disch := omega) only [go_sem, false_and, and_self]
       refine Jap Plain.mono [16777408, 16777488, 16777568] ?_
       simp -implicitDefEqProofs (disch := omega) only [go_sem, false_and, and_self, d, L24, L0b, l, m, p, results7]; try rfl
     . rw [if_neg z] at d; simp -implicitDefEqProofs (disch := omega) only [go_sem, false_and, and_self]
       refine Jab (λ A => ?_) (λ A => ?_)
       . rw [if_pos A] at d; simp -implicitDefEqProofs (disch := omega) only [go_sem, false_and, and_self]
         refine Jaa Q ?_
         simp -implicitDefEqProofs (disch := omega) only [go_sem, false_and, and_self]
         refine Jap Plain.mono [16777408, 16777488, 16777568] ?_
         simp -implicitDefEqProofs (disch := omega) only [go_sem, false_and, and_self, d, L24, L0b, l, m, p, results7]; try rfl
       . rw [if_neg A] at d; simp -implicitDefEqProofs (disch := omega) only [go_sem, false_and, and_self]
         refine Jab (λ B => ?_) (λ B => ?_)
         . rw [if_pos B] at d; simp -implicitDefEqProofs (disch := omega) only [go_sem, false_and, and_self]
           refine Jaa R ?_
           simp -implicitDefEqProofs (disch := omega) only [go_sem, false_and, and_self]
           refine Jaa S ?_
           simp -implicitDefEqProofs (disch := omega) only [go_sem, false_and, and_self]
           refine Jap Plain.mono [16777408, 16777488, 16777568] ?_
           simp -implicitDefEqProofs (disch := omega) only [go_sem, false_and, and_self, d, L24, L0b, l, m, p, results7]; try rfl
         . rw [if_neg B] at d; simp -implicitDefEqProofs (disch := omega) only [go_sem, false_and, and_self]
           refine Jab (λ C => ?_) (λ C => ?_)
           . rw [if_pos C] at d; simp -implicitDefEqProofs (disch := omega) only [go_sem, false_and, and_self]
             refine Jaa U ?_
             simp -implicitDefEqProofs (disch := omega) only [go_sem, false_and, and_self]
             refine Jap Plain.mono [16777408, 16777488, 16777568] ?_
             simp -implicitDefEqProofs (disch := omega) only [go_sem, false_and, and_self, d, L24, L0b, l, m, p, results7]; try rfl
           . rw [if_neg C] at d; simp -implicitDefEqProofs (disch := omega) only [go_sem, false_and, and_self]
             refine Jap Plain.mono [16777408, 16777488, 16777568] ?_
             simp -implicitDefEqProofs (disch := omega) only [go_sem, false_and, and_self, d, L24, L0b, l, m, p, results7]; try rfl
set_option maxHeartbeats 16000000 in
theorem tripR_ev (t : Tp) (ht : t.ok) : Ev prog 54 [TPP t] (B (JbA t)) := by
 obtain ⟨o1, o2, o3, o4, o5, o6, o7, o8, o9⟩ := ht; have P := JjT t.key t.part o1
 have c : JbA t = (Jbu t.key t.part && (decide ((1 <= t.hops.length /\ t.hops.length <= 12) /\ t.legs.length = t.hops.length - 1 /\ t.cks.length = 8 /\ t.tfs.length = 8 /\ t.offs.length = 8 /\ t.ups.length <= 30) &&
  (t.cks.all Jbe && (t.tfs.all JaT && (t.offs.all Jbw && (JdK t.ups.length (-1, 0) t.hops && JcS t.hops 0 t.legs)))))) := rfl
 rw [Bool.and_left_comm] at c; generalize JbA t = z at *; generalize Jbu t.key t.part = g at *
 obtain ⟨a, d, k, p, j, J, ⟨⟨pc, pn, pr, ps⟩, pl⟩, w, u⟩ := t
 simp only at *
 clear o1
 refine EV func54 ?_
 simp -implicitDefEqProofs (disch := omega) only [go_sem, ntmps54]
 refine Jaa (Jhc a.length 1 12) ?_
 by_cases R : 1 <= (a.length : Int) /\ (a.length : Int) <= 12
 rotate_left
 . rw [decide_eq_false (by omega), L06] at c
   rw [decide_eq_false R]; subst c; simp -implicitDefEqProofs (disch := omega) only [go_sem, results54]
 rw [decide_eq_true R]; simp -implicitDefEqProofs (disch := omega) only [go_sem]
 refine Jab (λ S => ?_) (λ S => ?_)
 . rw [decide_eq_false (by omega), L06] at c
   subst c; simp -implicitDefEqProofs (disch := omega) only [go_sem, S, results54]
 simp -implicitDefEqProofs (disch := omega) only [go_sem]
 refine Jab (λ U => ?_) (λ U => ?_)
 . rw [decide_eq_false (by omega), L06] at c
   subst c; simp -implicitDefEqProofs (disch := omega) only [go_sem, U, results54]
 simp -implicitDefEqProofs (disch := omega) only [go_sem]
 refine Jab (λ V => ?_) (λ V => ?_)
 . rw [decide_eq_false (by omega), L06] at c
   subst c; simp -implicitDefEqProofs (disch := omega) only [go_sem, V, results54]
 simp -implicitDefEqProofs (disch := omega) only [go_sem]
 refine Jab (λ W => ?_) (λ W => ?_)
 . rw [decide_eq_false (by omega), L06] at c
   subst c; simp -implicitDefEqProofs (disch := omega) only [go_sem, W, results54]
 simp -implicitDefEqProofs (disch := omega) only [go_sem]
 refine Jab (λ X => ?_) (λ X => ?_)
 . rw [decide_eq_false (by omega), L06] at c
   subst c; simp -implicitDefEqProofs (disch := omega) only [go_sem, X, results54]
 simp -implicitDefEqProofs (disch := omega) only [go_sem]
 rw [decide_eq_true (by omega), L0d] at c
 refine Jaa P ?_
 cases g with
 | false =>
  rw [L06] at c; subst c; simp -implicitDefEqProofs (disch := omega) only [go_sem, results54]
 | true =>
 rw [L0d] at c; simp -implicitDefEqProofs (disch := omega) only [go_sem]
 have ac : k.length = 8 := by omega
 have ai : p.length = 8 := by omega
 have ah : j.length = 8 := by omega
 have ag : d.length + 1 = a.length := by omega
 clear P R S U V W X
 refine Jaf (λ n E A => ∃ (i : Nat), i + n = 8 /\ z = ((k.drop i).all Jbe && ((p.drop i).all JaT && ((j.drop i).all Jbw && (JdK u.length (-1, 0) a && JcS a 0 d)))) /\ E 1 = .ptr 115343376 13 0 0 /\ E 3 = I i /\
  A 115343376 = some ⟨41, 13, [.agg [HPS a, LGS d, CKS k, TFS p, SL j, Str J, I pc, I pn, Str pr, Str ps, ITS pl, Str w, SLs u]]⟩) 8 ⟨0, by omega, c, ?_⟩ ?_
 . simp -implicitDefEqProofs (disch := omega) only [go_sem]; try rfl
 clear c
 rintro n E A ⟨i, T, c, e, C, f⟩
 simp -implicitDefEqProofs (disch := omega) only [go_sem, e, C, f]
 refine Jab (λ G => ?_) (λ G => ?_)
 . have i1 : i < k.length := by omega
   have i2 : i < p.length := by omega
   have i3 : i < j.length := by omega
   have P := JgZ (gd k i) (o2 _ (Jaj _ _ i1)); have c2 := validR37_ev (gd p i) (o3 _ (Jaj _ _ i2)); have Q := Jhc (gd j i) (-50400) 50400
   have hz : decide (-50400 <= gd j i /\ gd j i <= 50400) = Jbw (gd j i) := rfl
   rw [hz] at Q; rw [JaD k i i1, JaD p i i2, JaD j i i3, L1W, L1W, L1W, o3 _ (Jaj _ _ i2), L0d] at c; simp -implicitDefEqProofs (disch := omega) only [go_sem, e, C, f]
   refine Jaa P ?_
   cases hb1 : Jbe (gd k i) with
   | false =>
    rw [hb1, L06, L06] at c; subst c; simp -implicitDefEqProofs (disch := omega) only [go_sem, e, C, f, results54]
   | true =>
   rw [hb1, L0d] at c; simp -implicitDefEqProofs (disch := omega) only [go_sem, e, C, f]
   refine Jaa c2 ?_
   simp -implicitDefEqProofs (disch := omega) only [go_sem, e, C, f]
   refine Jaa Q ?_
   cases hb3 : Jbw (gd j i) with
   | false =>
    rw [hb3, L06, L06, L1E, L1E] at c; subst c; simp -implicitDefEqProofs (disch := omega) only [go_sem, e, C, f, results54]
   | true =>
   rw [hb3, L0d] at c; simp -implicitDefEqProofs (disch := omega) only [go_sem, e, C, f]
   refine Jad (8 - (i + 1)) (by omega) ⟨i + 1, by omega, c, ?_⟩
   simp -implicitDefEqProofs (disch := omega) only [go_sem, e, C, f]; try rfl
 have Z : i = 8 := by omega
 rw [List.drop_eq_nil_of_le (by omega), List.drop_eq_nil_of_le (by omega), List.drop_eq_nil_of_le (by omega), List.all_nil, List.all_nil, List.all_nil, L0d, L0d, L0d] at c
 clear Z T G; simp -implicitDefEqProofs (disch := omega) only [go_sem, e, f]
 refine Jaf (λ n E A => ∃ (i : Nat) (r : Int × Int), i + n = a.length /\ z = (JdK u.length r (a.drop i) && JcS a 0 d) /\ 0 <= r.2 /\ (i = 0 -> r = (-1, 0)) /\ (0 < i -> r = gd a (i - 1)) /\ E 1 = .ptr 115343376 13 0 0 /\ E 4 = I i /\
  A 115343376 = some ⟨41, 13, [.agg [HPS a, LGS d, CKS k, TFS p, SL j, Str J, I pc, I pn, Str pr, Str ps, ITS pl, Str w, SLs u]]⟩) a.length ⟨0, (-1, 0), by omega, c, L1M _, λ _ => rfl, λ h => absurd h (by omega), ?_⟩ ?_
 . simp -implicitDefEqProofs (disch := omega) only [go_sem, e, f]; try rfl
 clear c e C f E A n i
 rintro n E A ⟨i, ⟨la, lb⟩, T, c, af, L, M, e, m, f⟩
 simp -implicitDefEqProofs (disch := omega) only [go_sem, e, m, f]
 refine Jab (λ G => ?_) (λ G => ?_)
 . have H : i < a.length := by omega
   rw [JaD a i H, JdK, L1o] at c; generalize q : gd a i = h at *; obtain ⟨D, F⟩ := h
   simp only at *
   simp -implicitDefEqProofs (disch := omega) only [go_sem, q, e, m, f]
   refine Jaa (Jhc D 0 7) ?_
   by_cases O : 0 <= D /\ D <= 7
   rotate_left
   . rw [decide_eq_false (by omega), L06] at c
     rw [decide_eq_false O]; subst c; simp -implicitDefEqProofs (disch := omega) only [go_sem, q, e, m, f, results54]
   rw [decide_eq_true O]; simp -implicitDefEqProofs (disch := omega) only [go_sem, q, e, m, f]
   refine Jaa (Jhc F 0 29) ?_
   by_cases q3 : 0 <= F /\ F <= 29
   rotate_left
   . rw [decide_eq_false (by omega), L06] at c
     rw [decide_eq_false q3]; subst c; simp -implicitDefEqProofs (disch := omega) only [go_sem, q, e, m, f, results54]
   rw [decide_eq_true q3]; simp -implicitDefEqProofs (disch := omega) only [go_sem, q, e, m, f]
   refine Jab (λ q4 => ?_) (λ q4 => ?_)
   . rw [decide_eq_false (by omega), L06] at c
     subst c; simp -implicitDefEqProofs (disch := omega) only [go_sem, q, q4, e, m, f, results54]
   simp -implicitDefEqProofs (disch := omega) only [go_sem, q, e, m, f]
   have x : D ≠ la -> lb <= F -> z = (JdK u.length (D, F) (a.drop (i + 1)) && JcS a 0 d) := λ R S => by
    rw [decide_eq_true (by omega), L0d] at c; exact c
   have K : ∀ h : 0 < i + 1, (D, F) = gd a (i + 1 - 1) := λ _ => by rw [L15, q]
   have hj : ((i : Int) - 1).toNat = i - 1 := by omega
   refine Jab (λ q5 => ?_) (λ q5 => ?_)
   . have ae : i - 1 < a.length := by omega
     have Y : gd a (i - 1) = (la, lb) := (M (by omega)).symm
     simp -implicitDefEqProofs (disch := omega) only [go_sem, q, e, m, f, hj, Y]
     refine Jab (λ q6 => ?_) (λ q6 => ?_)
     . rw [decide_eq_false (by omega), L06] at c
       subst c; simp -implicitDefEqProofs (disch := omega) only [go_sem, q, q6, e, m, f, results54]
     simp -implicitDefEqProofs (disch := omega) only [go_sem, q, e, m, f, hj, Y]
     refine Jab (λ q7 => ?_) (λ q7 => ?_)
     . rw [decide_eq_false (by omega), L06] at c
       subst c; simp -implicitDefEqProofs (disch := omega) only [go_sem, q, q7, e, m, f, results54]
     simp -implicitDefEqProofs (disch := omega) only [go_sem, q, e, m, f, hj, Y]
     refine Jad (a.length - (i + 1)) (by omega) ⟨i + 1, (D, F), by omega, x q6 (by omega), q3.1, λ h => absurd h (by omega), K, ?_⟩
     simp -implicitDefEqProofs (disch := omega) only [go_sem, q, e, m, f]; try rfl
   . have h0 : i = 0 := by omega
     have aa := L h0; simp only [Prod.mk.injEq] at aa; simp -implicitDefEqProofs (disch := omega) only [go_sem, q, e, m, f]
     refine Jad (a.length - (i + 1)) (by omega) ⟨i + 1, (D, F), by omega, x (by omega) (by omega), q3.1, λ h => absurd h (by omega), K, ?_⟩
     simp -implicitDefEqProofs (disch := omega) only [go_sem, q, e, m, f]; try rfl
 obtain rfl : i = a.length := by omega
 rw [L0H, JdK, L0d] at c; simp -implicitDefEqProofs (disch := omega) only [go_sem, e, f]; clear L M G T
 have N : z = JcS a 0 (d.drop 0) := c
 refine Jaf (λ n E A => ∃ (i : Nat), i + n = d.length /\ z = JcS a i (d.drop i) /\ E 1 = .ptr 115343376 13 0 0 /\ E 6 = I i /\
  A 115343376 = some ⟨41, 13, [.agg [HPS a, LGS d, CKS k, TFS p, SL j, Str J, I pc, I pn, Str pr, Str ps, ITS pl, Str w, SLs u]]⟩) d.length ⟨0, by omega, N, ?_⟩ ?_
 . simp -implicitDefEqProofs (disch := omega) only [go_sem, e, f]; try rfl
 clear c N e m f E A n
 rintro n E A ⟨i, T, c, e, y, f⟩
 simp -implicitDefEqProofs (disch := omega) only [go_sem, e, y, f]
 refine Jab (λ G => ?_) (λ G => ?_)
 . have H : i < d.length := by omega
   have ad : i + 1 < a.length := by omega
   have ab : i < a.length := by omega
   rw [JaD d i H, JcS, L1o] at c; have Q := Ji1 (gd d i); generalize o : gd d i = l at *; generalize legF l = b at *; obtain ⟨lf, lt, lg, lk⟩ := l
   simp only at *
   simp -implicitDefEqProofs (disch := omega) only [go_sem, o, e, y, f]
   refine Jaa Q ?_
   cases b with
   | false =>
    rw [L06] at c; subst c; simp -implicitDefEqProofs (disch := omega) only [go_sem, o, e, y, f, results54]
   | true =>
   rw [L0d] at c
   have s : ((i : Int) + 1).toNat = i + 1 := by omega
   simp -implicitDefEqProofs (disch := omega) only [go_sem, o, e, y, f, s]
   refine Jab (λ O => ?_) (λ O => ?_)
   . rw [decide_eq_false (by omega), L06] at c
     subst c; simp -implicitDefEqProofs (disch := omega) only [go_sem, o, O, e, y, f, s, results54]
   simp -implicitDefEqProofs (disch := omega) only [go_sem, o, e, y, f, s]
   refine Jab (λ q2 => ?_) (λ q2 => ?_)
   . rw [decide_eq_false (by omega), L06] at c
     subst c; simp -implicitDefEqProofs (disch := omega) only [go_sem, o, q2, e, y, f, s, results54]
   rw [decide_eq_true (by omega), L0d] at c
   simp -implicitDefEqProofs (disch := omega) only [go_sem, o, e, y, f, s]
   refine Jad (d.length - (i + 1)) (by omega) ⟨i + 1, by omega, c, ?_⟩
   simp -implicitDefEqProofs (disch := omega) only [go_sem, o, e, y, f, s]; try rfl
 obtain rfl : i = d.length := by omega
 rw [L0H, JcS] at c; subst c; simp -implicitDefEqProofs (disch := omega) only [go_sem, e, y, f, results54]
set_option maxHeartbeats 4000000 in
theorem payerR_ev (t : Tp) (z : t.ok) (h : JbA t = true) (i : Nat) (D : i < t.legs.length) : Ev prog 57 [TPP t, I i] (I (payF t i)) := by
 have E := (Jaz.1 h).2.1
 have s := λ i => Jfp h (i := i)
 have c : payF t i = if i = 0 then (gd t.hops 0).1
  else if (gd t.hops (i - 1)).2 + 1 < t.ups.length /\ Jbz (evF t.key t.part) (gd t.ups ((gd t.hops (i - 1)).2 + 1).toNat) t.call = 1 then (gd t.hops (i - 1)).1
  else (gd t.hops i).1 := rfl
 have o := Jj8 t.key t.part (gd t.ups ((gd t.hops (i - 1)).2 + 1).toNat) t.call z.part; generalize payF t i = P at *; generalize Jbz (evF t.key t.part) (gd t.ups ((gd t.hops (i - 1)).2 + 1).toNat) t.call = w at *
 obtain ⟨a, m, p, B, n, A, ⟨⟨G, J, K, L⟩, H⟩, l, k⟩ := t
 simp only at *
 clear h
 refine EV func57 ?_
 simp -implicitDefEqProofs (disch := omega) only [go_sem, ntmps57]
 refine Jab (λ q => ?_) (λ q => ?_)
 . obtain rfl : i = 0 := by omega
   rw [if_pos rfl] at c
   have r : 0 < a.length := by omega
   simp -implicitDefEqProofs (disch := omega) only [go_sem, c, results57]; try rfl
 rw [if_neg (by omega)] at c
 have d : ((i : Int) - 1).toNat = i - 1 := by omega
 have j : i - 1 < a.length := by omega
 have u : i < a.length := by omega
 obtain ⟨M, N, O⟩ := s _ j
 generalize e : gd a i = y at *; generalize b : gd a (i - 1) = x at *; obtain ⟨Q, C⟩ := x; obtain ⟨R, S⟩ := y
 simp only at *
 simp -implicitDefEqProofs (disch := omega) only [go_sem, d, e, b]
 refine Jab (λ g => ?_) (λ g => ?_)
 . have F : (C + 1).toNat < k.length := by omega
   simp -implicitDefEqProofs (disch := omega) only [go_sem, d, e, b]
   refine Jaa o ?_
   simp -implicitDefEqProofs (disch := omega) only [go_sem, d, e, b]
   refine Jab (λ f => ?_) (λ f => ?_)
   . rw [if_pos ⟨g, f⟩] at c; subst c; simp -implicitDefEqProofs (disch := omega) only [go_sem, d, e, b, f, results57]
   . rw [if_neg (λ h => f h.2)] at c
     subst c; simp -implicitDefEqProofs (disch := omega) only [go_sem, d, e, b, f, results57]
 . rw [if_neg (λ h => g h.1)] at c
   subst c; simp -implicitDefEqProofs (disch := omega) only [go_sem, d, e, b, results57]
def insB (o : List Int) (v : Int) : List Int := if gd o (loF o v) = v then o else o.take (loF o v) ++ v :: o.drop (loF o v)
def brdN (o : List Int) : List Rt -> List Int
 | [] => o
 | r :: l => brdN (insB (insB o r.f) r.t) l
def brdF (x : Tf) : List Int := brdN [0, 86400] x.l
structure BrdOK (o : List Int) : Prop where
 asc : o.Pairwise (· < ·)
 inn : ∀ y ∈ o, 0 <= y /\ y <= 86400
 top : (86400 : Int) ∈ o
 bot : (0 : Int) ∈ o
theorem brd0 : BrdOK [0, 86400] := ⟨by decide, by decide, by decide, by decide⟩
theorem asc_le {o : List Int} (h : o.Pairwise (· < ·)) : o.Pairwise (· <= ·) := h.imp λ h => Int.le_of_lt h
theorem gd_of_mem {o : List Int} {v : Int} (h : v ∈ o) : ∃ i, i < o.length /\ gd o i = v := by
 obtain ⟨i, a, e⟩ := L1l.1 h
 exact ⟨i, a, by unfold gd; simp [a, e]⟩
theorem lo_lt {o : List Int} (h : BrdOK o) {v : Int} (hv : v <= 86400) : loF o v < o.length := by
 obtain ⟨i, hi, e⟩ := gd_of_mem h.top
 rcases L1t (loF o v) o.length with h1 | h1
 . exact h1
 . have := Jib o v i (by omega); omega
theorem lo_ge {o : List Int} (h : BrdOK o) {v : Int} (a : v <= 86400) : v <= gd o (loF o v) := Jm0 o v _ (asc_le h.asc) (L09 _) (lo_lt h a)
theorem ins_mem (o : List Int) (v y : Int) (h : loF o v < o.length) : y ∈ insB o v ↔ y = v \/ y ∈ o := by
 unfold insB
 split
 . rename_i e
   constructor
   . exact .inr
   . rintro (rfl | a)
     . exact e ▸ Jaj o _ h
     . exact a
 . rw [L0t, L0q]
   constructor
   . rintro (a | rfl | a)
     . exact .inr (L0J a)
     . exact .inl rfl
     . exact .inr (L16 a)
   . rintro (rfl | a)
     . exact .inr (.inl rfl)
     . rw [<- List.take_append_drop (loF o v) o, L0t] at a
       rcases a with a | a
       . exact .inl a
       . exact .inr (.inr a)
theorem ins_ok {o : List Int} (h : BrdOK o) {v : Int} (h0 : 0 <= v) (h1 : v <= 86400) : BrdOK (insB o v) := by
 have hl := lo_lt h h1; have hg := lo_ge h h1
 refine ⟨?_, λ y hy => ?_, (ins_mem o v _ hl).2 (.inr h.top), (ins_mem o v _ hl).2 (.inr h.bot)⟩
 . unfold insB
   split
   . exact h.asc
   . rename_i hne; have hp := h.asc; rw [<- List.take_append_drop (loF o v) o, List.pairwise_append] at hp; obtain ⟨p1, p2, p3⟩ := hp
     have hlt : ∀ y ∈ o.take (loF o v), y < v := λ y hy => by
      obtain ⟨i, hi, e⟩ := gd_of_mem hy
      rw [L01] at hi
      have := Jib o v i (by omega)
      have e2 : gd (o.take (loF o v)) i = gd o i := by unfold gd; rw [L0X, L0X, L0j, if_pos (by omega)]
      omega
     have hgt : ∀ y ∈ o.drop (loF o v), v < y := λ y hy => by
      rw [JaD o _ hl] at hy p2
      rcases L0q.1 hy with rfl | hy
      . omega
      . have := (L1x.1 p2).1 y hy; omega
     rw [List.pairwise_append]
     refine ⟨p1, L1x.2 ⟨hgt, p2⟩, λ a ha b hb => ?_⟩
     rcases L0q.1 hb with rfl | hb
     . exact hlt a ha
     . exact p3 a ha b hb
 . rcases (ins_mem o v _ hl).1 hy with rfl | hy
   . exact ⟨h0, h1⟩
   . exact h.inn y hy
theorem ins_len (o : List Int) (v : Int) : (insB o v).length <= o.length + 1 := by
 unfold insB
 split
 . omega
 . rw [L0b, L0e, L01, L0g]; omega
theorem brdN_ok : ∀ (l : List Rt) (o : List Int), BrdOK o -> (∀ r ∈ l, Jkh r = true) -> BrdOK (brdN o l) /\ (∀ y ∈ o, y ∈ brdN o l) /\ (∀ r ∈ l, r.f ∈ brdN o l /\ r.t ∈ brdN o l) /\ (brdN o l).length <= o.length + 2 * l.length
 | [], o, h, _ => ⟨h, λ y hy => hy, (by simp), by rw [brdN]; simp⟩
 | r :: l, o, h, hg => by
  have g := Jbm.1 (hg r (by simp))
  have k1 := ins_ok h (v := r.f) (by omega) (by omega)
  have k2 := ins_ok k1 (v := r.t) (by omega) (by omega)
  have m1 := λ y => ins_mem o r.f y (lo_lt h (by omega))
  have m2 := λ y => ins_mem (insB o r.f) r.t y (lo_lt k1 (by omega))
  obtain ⟨q1, q2, q3, q4⟩ := brdN_ok l _ k2 (λ r hr => hg r (by simp [hr]))
  have l1 := ins_len o r.f; have l2 := ins_len (insB o r.f) r.t; rw [brdN]
  refine ⟨q1, λ y hy => q2 y ((m2 y).2 (.inr ((m1 y).2 (.inr hy)))), λ s hs => ?_, by rw [L0e]; omega⟩
  rcases L0q.1 hs with rfl | hs
  . exact ⟨q2 _ ((m2 _).2 (.inr ((m1 _).2 (.inl rfl)))), q2 _ ((m2 _).2 (.inl rfl))⟩
  . exact q3 s hs
theorem brdN_snoc (l : List Rt) : ∀ (o : List Int) (r : Rt), brdN o (l ++ [r]) = insB (insB (brdN o l) r.f) r.t := by
 induction l with
 | nil => intro o r; rfl
 | cons a l b => intro o r; rw [L0L, brdN, b, brdN]
def twoB (o : List Int) (f t : Int) (j : Nat) : List Int := if j = 0 then o else if j = 1 then insB o f else insB (insB o f) t
theorem twoB_step (o : List Int) (f t : Int) {j : Nat} (h : j < 2) : twoB o f t (j + 1) = insB (twoB o f t j) (gd [f, t] j) := by
 match j, h with
 | 0, _ => rfl
 | 1, _ => rfl
def BI (x : Tf) (i : Nat) (q : List Int) (o : List Int) (j : Nat) (E : Env) (a : Jac) : Prop :=
 E 1 = .ptr 341835792 2 0 0 /\ E 3 = SL o /\ E 4 = I i /\ E 28 = .own 341836224 1 0 2 /\ E 29 = I 2 /\ E 30 = I j /\ a 341835792 = some ⟨100, 2, [TF x]⟩ /\ a 341836224 = some ⟨3, 1, q.map I⟩
set_option maxHeartbeats 8000000 in
theorem borders_ev (x : Tf) (hx : JaT x = true) : Ev prog 162 [TF x] (SL (brdF x)) := by
 obtain ⟨⟨h1, h2, h3⟩, h4⟩ := Ja9.1 hx
 refine EW [2, 12, 13] func162 ?_
 simp -implicitDefEqProofs (disch := omega) only [go_sem, ntmps162]
 refine Jap Plain.mono [341835904] ?_
 simp -implicitDefEqProofs (disch := omega) only [go_sem]
 refine Jaf (λ m E σ => ∃ i : Nat, i + m = x.l.length /\ E 1 = .ptr 341835792 2 0 0 /\ E 3 = SL (brdN [0, 86400] (x.l.take i)) /\ E 4 = I i /\ σ 341835792 = some ⟨100, 2, [TF x]⟩) x.l.length ⟨0, by omega, ?_⟩ ?_
 . simp -implicitDefEqProofs (disch := omega) only [go_sem]
   exact ⟨rfl, rfl⟩
 rintro m E σ ⟨i, hm, e1, e3, e4, m1⟩
 simp -implicitDefEqProofs (disch := omega) only [go_sem, e1, e3, e4, m1]
 refine Jab (λ hc => ?_) (λ hc => ?_)
 rotate_left
 . obtain rfl : i = x.l.length := by omega
   rw [L04] at e3
   have e3 : E 3 = SL (brdF x) := e3
   simp -implicitDefEqProofs (disch := omega) only [go_sem, e3, results162]
 have hil : i < x.l.length := by omega
 have hsn : brdN [0, 86400] (x.l.take (i + 1)) = twoB (brdN [0, 86400] (x.l.take i)) (gd x.l i).f (gd x.l i).t 2 := by
  rw [List.take_succ_eq_append_getElem hil, brdN_snoc, show x.l[i] = gd x.l i by unfold gd; simp [hil]]; rfl
 have hg := Jbm.1 (h4 _ (Jaj x.l i hil))
 obtain ⟨q1, _, _, q4⟩ := brdN_ok (x.l.take i) [0, 86400] brd0 (λ r hr => h4 r (L0J hr))
 rw [L01] at q4
 have q4 : (brdN [0, 86400] (x.l.take i)).length <= 30 := by simp only [L0e, L0r] at q4; omega
 generalize brdN [0, 86400] (x.l.take i) = o at *; simp -implicitDefEqProofs (disch := omega) only [go_sem, e1, e3, e4, m1]; generalize hrr : gd x.l i = r at *; obtain ⟨rd, rf, rt, rp⟩ := r
 simp only at *
 have k1 := ins_ok q1 (v := rf) (by omega) (by omega)
 have k2 := ins_ok k1 (v := rt) (by omega) (by omega)
 have l1 := ins_len o rf; have l2 := ins_len (insB o rf) rt
 have hall : ∀ j, BrdOK (twoB o rf rt j) /\ (twoB o rf rt j).length <= 40 := λ j => by
  unfold twoB
  split
  . exact ⟨q1, by omega⟩
  . split
    . exact ⟨k1, by omega⟩
    . exact ⟨k2, by omega⟩
 have hst := λ {j} h => twoB_step o rf rt (j := j) h
 have h0 : twoB o rf rt 0 = o := rfl
 have hgv : ∀ j, j < 2 -> 0 <= gd [rf, rt] j /\ gd [rf, rt] j <= 86400 := λ j hj => by
  match j, hj with
  | 0, _ => show 0 <= rf /\ rf <= 86400; omega
  | 1, _ => show 0 <= rt /\ rt <= 86400; omega
 have hql : ([rf, rt] : List Int).length = 2 := rfl
 rw [<- h0] at e3
 have hqm : [AV.v (.int .i64 rf), AV.v (.int .i64 rt)] = [rf, rt].map I := rfl
 refine Jaf (λ m E σ => ∃ j : Nat, j + m = 2 /\ BI x i [rf, rt] (twoB o rf rt j) j E σ) 2 ⟨0, by omega, ?_⟩ ?_
 . simp -implicitDefEqProofs (disch := omega) only [go_sem, BI, e1, e3, e4, m1, hrr]
   try ((repeat' apply And.intro) <;> rfl)
 clear e1 e3 e4 m1 h0 l1 l2 k1 k2 q1 hqm hc; generalize twoB o rf rt = W at *; generalize ([rf, rt] : List Int) = q at *; clear E σ
 rintro m E σ ⟨j, hm2, ⟨e1, e3, e4, e28, e29, e30, m1, m28⟩⟩
 simp -implicitDefEqProofs (disch := omega) only [go_sem, e1, e3, e4, e28, e29, e30, m1, m28]
 refine Jab (λ hc => ?_) (λ hc => ?_)
 rotate_left
 . obtain rfl : j = 2 := by omega
   simp -implicitDefEqProofs (disch := omega) only [go_sem, e1, e3, e4, e28, e29, e30, m1, m28]
   refine Jad (x.l.length - (i + 1)) (by omega) ⟨i + 1, by omega, ?_⟩
   rw [hsn]; simp -implicitDefEqProofs (disch := omega) only [go_sem, e1, e3, e4, e28, e29, e30, m1, m28]; try rfl
 have hj : j < 2 := by omega
 have hjq : j < q.length := by omega
 obtain ⟨w1, w2⟩ := hall j
 obtain ⟨v1, v2⟩ := hgv j hj
 have hW := hst hj; have hlo := lo_lt w1 v2; have hge := lo_ge w1 v2; have hlt := Jib (W j) (gd q j); unfold insB at hW; simp -implicitDefEqProofs (disch := omega) only [go_sem, e1, e3, e4, e28, e29, e30, m1, m28]; generalize gd q j = n at *; clear hall hgv hst; generalize W j = l at *
 refine Jaf (λ m E σ => ∃ u : Nat, u + m = loF l n /\ BI x i q l j E σ /\ E 6 = I n /\ E 7 = I u) (loF l n) ⟨0, by omega, ?_⟩ ?_
 . simp -implicitDefEqProofs (disch := omega) only [go_sem, BI, e1, e3, e4, e28, e29, e30, m1, m28]
   try ((repeat' apply And.intro) <;> rfl)
 clear e1 e3 e4 e28 e29 e30 m1 m28 E σ
 rintro m' E σ ⟨u, hk, ⟨e1, e3, e4, e28, e29, e30, m1, m28⟩, e6, e7⟩
 have hkl : u < l.length := by omega
 simp -implicitDefEqProofs (disch := omega) only [go_sem, e1, e3, e4, e28, e29, e30, m1, m28, e6, e7]
 refine Jab (λ c1 => ?_) (λ c1 => ?_)
 . have hk2 : u < loF l n := by
    rcases L1t u (loF l n) with h | h
    . exact h
    . have e : u = loF l n := by omega
      rw [<- e] at hge; omega
   simp -implicitDefEqProofs (disch := omega) only [go_sem, e1, e3, e4, e28, e29, e30, m1, m28, e6, e7]
   refine Jad (loF l n - (u + 1)) (by omega) ⟨u + 1, by omega, ?_⟩
   simp -implicitDefEqProofs (disch := omega) only [go_sem, BI, e1, e3, e4, e28, e29, e30, m1, m28, e6, e7]; try rfl
 have hk2 : loF l n = u := by
  rcases L1t u (loF l n) with h | h
  . have := hlt u h; omega
  . omega
 rw [hk2] at hW; simp -implicitDefEqProofs (disch := omega) only [go_sem, e1, e3, e4, e28, e29, e30, m1, m28, e6, e7]
 refine Jab (λ c2 => ?_) (λ c2 => ?_)
 rotate_left
 . rw [if_pos (by omega)] at hW
   simp -implicitDefEqProofs (disch := omega) only [go_sem, e1, e3, e4, e28, e29, e30, m1, m28, e6, e7]
   refine Jap Plain.mono [341836704] ?_
   simp -implicitDefEqProofs (disch := omega) only [go_sem, e1, e3, e4, e28, e29, e30, m1, m28, e6, e7]
   refine Jad (2 - (j + 1)) (by omega) ⟨j + 1, by omega, ?_⟩
   rw [hW]; simp -implicitDefEqProofs (disch := omega) only [go_sem, BI, e1, e3, e4, e28, e29, e30, m1, m28, e6, e7]; try rfl
 . rw [if_neg c2] at hW
   have hi : u <= l.length := by omega
   have htl : (l.take u).length = u := by rw [L01]; omega
   have hdl : (l.drop u).length = l.length - u := L0g
   simp -implicitDefEqProofs (disch := omega) only [go_sem, e1, e3, e4, e28, e29, e30, m1, m28, e6, e7]
   refine Jq3 (λ D E σ => E 1 = .ptr 341835792 2 0 0 /\ E 4 = I i /\ E 6 = I n /\ E 7 = I u /\ E 28 = .own 341836224 1 0 2 /\ E 29 = I 2 /\ E 30 = I j /\ σ 341835792 = some ⟨100, 2, [TF x]⟩ /\ (D 10 = true -> D 9 = true) /\ (D 10 = true -> D 3 = true) /\ (D 11 = true -> D 10 = true) /\ (D 9 = true -> D 5 = true) /\ (D 11 = true -> D 0 = true) /\ (D 11 = true -> D 6 = true) /\ (D 5 = true -> D 9 = false -> σ 341836624 = some ⟨3, 1, [I n]⟩) /\ (D 5 = true -> D 9 = false -> E 53 = .own 341836624 1 0 1) /\ (D 9 = true -> σ 341836624 = some ⟨3, 1, I n :: (l.drop u).map I⟩) /\ (D 9 = true -> E 57 = .own 341836624 1 0 (1 + (l.length - u))) /\ (D 10 = true -> σ 341836704 = some ⟨3, 1, (l.take u).map I ++ I n :: (l.drop u).map I⟩) /\ (D 11 = false -> σ 341836224 = some ⟨3, 1, q.map I⟩) /\ (D 11 = false -> E 3 = SL l) /\ (D 11 = true -> σ 341836224 = some ⟨3, 1, q.map I⟩) /\ (D 11 = true -> E 3 = .own 341836704 1 0 (l.length + 1)) /\ (D 0 = true -> E 48 = SL l) /\ (D 1 = true -> E 49 = I u) /\ (D 2 = true -> E 50 = I u) /\ (D 3 = true -> E 51 = .cut 1 ((l.take u).map I)) /\ (D 4 = true -> E 52 = I n) /\ (D 6 = true -> E 54 = SL l) /\ (D 7 = true -> E 55 = I u) /\ (D 8 = true -> E 56 = SL (l.drop u)) /\ (D 10 = true -> E 58 = .own 341836704 1 0 (l.length + 1))) 10 ?_ ?_ ?_ ?_
   . simp -implicitDefEqProofs (disch := omega) only [go_sem, hi, hdl, htl]
     refine ⟨e1, e4, e6, e7, e28, e29, e30, m1, ?_⟩; simp [m28, e3]
   . simp only [Jjw, ne_eq, Nat.reduceAdd, Nat.reduceEqDiff, not_true_eq_false, not_false_eq_true, false_implies, true_implies, depK, Region.binds, eq_self, forall_const, and_true]
     repeat' apply And.intro
     all_goals try exact trivial
     all_goals
      rintro D E σ ⟨e1, e4, e6, e7, e28, e29, e30, m1, c10_9, c10_3, c11_10, c9_5, c11_0, c11_6, m0_0, n0_0, m0_1, n0_1, m1_0, m2_0, n2_0, m2_1, n2_1, j0, j1, j2, j3, j4, j6, j7, j8, j10⟩ hd
      have k := And.intro trivial <| And.intro (cK c10_9) <| And.intro (cK c10_3) <| And.intro (cK c11_10) <| And.intro (cK c9_5) <| And.intro (cK c11_0) <| And.intro (cK c11_6) trivial
      simp -implicitDefEqProofs (disch := first | assumption | (simp only [hd, k]; done) | omega) only [go_sem, e1, e4, e6, e7, e28, e29, e30, m1, m0_0, n0_0, m0_1, n0_1, m1_0, m2_0, n2_0, m2_1, n2_1, j0, j1, j2, j3, j4, j6, j7, j8, j10, hi, hdl, htl]
      try (refine JoD (sz := 1) (es := l.map I) (e := 3) 0 u (km := .i64) (by simp -implicitDefEqProofs (disch := first | assumption | (simp only [hd, k]; done) | omega) only [go_sem, e1, e4, e6, e7, e28, e29, e30, m1, m0_0, n0_0, m0_1, n0_1, m1_0, m2_0, n2_0, m2_1, n2_1, j0, j1, j2, j3, j4, j6, j7, j8, j10, hi, hdl, htl]) (by simp -implicitDefEqProofs (disch := omega) only [go_sem]) (by simp -implicitDefEqProofs (disch := omega) only [go_sem]) (by decide) (by simp -implicitDefEqProofs (disch := first | assumption | (simp only [hd, k]; done) | omega) only [go_sem, e1, e4, e6, e7, e28, e29, e30, m1, m0_0, n0_0, m0_1, n0_1, m1_0, m2_0, n2_0, m2_1, n2_1, j0, j1, j2, j3, j4, j6, j7, j8, j10, hi, hdl, htl]) (by simp) (Jbj (k := .i64) (n := (u : Int)) (by simp -implicitDefEqProofs (disch := first | assumption | (simp only [hd, k]; done) | omega) only [go_sem, e1, e4, e6, e7, e28, e29, e30, m1, m0_0, n0_0, m0_1, n0_1, m1_0, m2_0, n2_0, m2_1, n2_1, j0, j1, j2, j3, j4, j6, j7, j8, j10, hi, hdl, htl]) (by omega) ⟨rfl, by omega, L17 _, by rw [L0c]; exact hi⟩) ?_; rw [List.drop_zero, L11, <- L1L]; simp -implicitDefEqProofs (disch := first | assumption | (simp only [hd, k]; done) | omega) only [go_sem, e1, e4, e6, e7, e28, e29, e30, m1, m0_0, n0_0, m0_1, n0_1, m1_0, m2_0, n2_0, m2_1, n2_1, j0, j1, j2, j3, j4, j6, j7, j8, j10, hi, hdl, htl])
      repeat' apply And.intro
      all_goals first | assumption | (intro _; assumption) | trivial | (simp -implicitDefEqProofs (contextual := true) (disch := first | assumption | omega) only [go_sem, m0_0, n0_0, m0_1, n0_1, m1_0, m2_0, n2_0, m2_1, n2_1, j0, j1, j2, j3, j4, j6, j7, j8, j10, hd, c10_9, c10_3, c11_10, c9_5, c11_0, c11_6, k, implies_true, forall_const, false_implies, true_implies]; done) | (intro h; intros; exfalso; simp (maxDischargeDepth := 9) [hd, k] at h; done) | (intros; contradiction) | trace_state
   . intro o ho
     obtain rfl := Option.some.inj ho
     refine ⟨rfl, ?_⟩
     rintro D E σ ⟨e1, e4, e6, e7, e28, e29, e30, m1, c10_9, c10_3, c11_10, c9_5, c11_0, c11_6, m0_0, n0_0, m0_1, n0_1, m1_0, m2_0, n2_0, m2_1, n2_1, j0, j1, j2, j3, j4, j6, j7, j8, j10⟩ hd
     have k := And.intro trivial <| And.intro (cK c10_9) <| And.intro (cK c10_3) <| And.intro (cK c11_10) <| And.intro (cK c9_5) <| And.intro (cK c11_0) <| And.intro (cK c11_6) trivial; obtain ⟨hD, h3, h9, _⟩ := hd
     have h3 : D 3 = true := h3 rfl
     have h9 : D 9 = true := h9 rfl
     have q3 := j3 h3; have qm := m0_1 h9; have qn := n0_1 h9
     have h11 : D 11 = false := by cases h : D 11 with | false => rfl | true => have := c11_10 h; rw [hD] at this; cases this
     have r1 := m2_0 h11; have r2 := n2_0 h11
     refine JjI (es := (l.take u).map I) (xs := I n :: (l.drop u).map I) (sz := 1) (e := 3) (d := 58) (z := .int .i64 0) (by simp -implicitDefEqProofs (disch := omega) only [go_sem, q3]) (by simp -implicitDefEqProofs (disch := omega) only [go_sem]) (by simp -implicitDefEqProofs (disch := omega) only [go_sem]) (by decide) (by kernel_rfl) rfl (by simp -implicitDefEqProofs (disch := omega) only [go_sem]) (by intro s; simp -implicitDefEqProofs (disch := omega) only [go_sem, qn]; intro h; cases h) ?_ (by simp) ?_ ?_ ?_ ?_ ?_
     . simp only [Jeq, ev]; rw [qn]; exact ⟨_, qm, rfl, by simp [hdl]; omega, rfl, by rw [List.drop_zero, L03 (by simp [hdl]; omega)]⟩
     . intro e he; rcases L0q.1 he with rfl | he; rfl; obtain ⟨x, _, rfl⟩ := L05.1 he; rfl
     . have e8 : tby (spB prog 162 61 [2, 12, 13]).P 3 = 8 := by kernel_rfl
       rw [e8]; simp [htl, hdl]; omega
     . simp [htl, hdl]; omega
     . rw [show (l.take u).map I ++ I n :: (l.drop u).map I = (l.take u ++ n :: l.drop u).map I by simp]; exact Jhn _ _
     have elen : ((l.take u).map I).length + (I n :: (l.drop u).map I).length = l.length + 1 := by simp [htl, hdl]; omega
     rw [elen]; simp -implicitDefEqProofs (disch := omega) only [go_sem, e1, e4, e6, e7, e28, e29, e30, m1, hD, h3, h9, h11, q3, qm, qn, r1, r2]
     repeat' apply And.intro
     all_goals first | assumption | exact False.elim | exact λ _ => trivial | exact λ _ => c9_5 h9 | exact λ _ h => h.elim | (intro h; rw [h11] at h; cases h) | (intro h; rw [j0 h]; rfl) | (intro h; rw [j1 h]; rfl) | (intro h; rw [j2 h]; rfl) | (intro h; rw [j4 h]; rfl) | (intro h; rw [j6 h]; rfl) | (intro h; rw [j7 h]; rfl) | (intro h; rw [j8 h]; rfl) | trace_state
   . rintro D E σ hD ⟨e1, e4, e6, e7, e28, e29, e30, m1, c10_9, c10_3, c11_10, c9_5, c11_0, c11_6, m0_0, n0_0, m0_1, n0_1, m1_0, m2_0, n2_0, m2_1, n2_1, j0, j1, j2, j3, j4, j6, j7, j8, j10⟩
     have g0 := m0_1 (hD 9 (by decide))
     have f0 := n0_1 (hD 9 (by decide))
     have g1 := m1_0 (hD 10 (by decide))
     have g2 := m2_1 (hD 11 (by decide))
     have f2 := n2_1 (hD 11 (by decide))
     have q0 := j0 (hD 0 (by decide))
     have q1 := j1 (hD 1 (by decide))
     have q2 := j2 (hD 2 (by decide))
     have q3 := j3 (hD 3 (by decide))
     have q4 := j4 (hD 4 (by decide))
     have q6 := j6 (hD 6 (by decide))
     have q7 := j7 (hD 7 (by decide))
     have q8 := j8 (hD 8 (by decide))
     have q10 := j10 (hD 10 (by decide))
     clear c10_9 c10_3 c11_10 c9_5 c11_0 c11_6 m0_0 n0_0 m0_1 n0_1 m1_0 m2_0 n2_0 m2_1 n2_1 j0 j1 j2 j3 j4 j6 j7 j8 j10 hD
     have hj : (l.take u).map I ++ I n :: (l.drop u).map I = (l.take u ++ n :: l.drop u).map I := by simp
     rw [hj] at g1
     have hlen : (l.take u ++ n :: l.drop u).length = l.length + 1 := by simp [hdl]; omega
     rw [<- hlen] at f2
     have ht := L04 (l := l.take u ++ n :: l.drop u)
     generalize l.take u ++ n :: l.drop u = L at *; simp -implicitDefEqProofs (disch := omega) only [go_sem, e1, e4, e6, e7, e28, e29, e30, m1, f2, g1, g2]
     refine Jap Plain.mono [341836704] ?_
     simp -implicitDefEqProofs (disch := omega) only [go_sem, e1, e4, e6, e7, e28, e29, e30, m1, f2, g1, g2, ht]
     refine Jad (2 - (j + 1)) (by omega) ⟨j + 1, by omega, ?_⟩
     rw [hW]; simp -implicitDefEqProofs (disch := omega) only [go_sem, BI, e1, e4, e6, e7, e28, e29, e30, m1, f2, g1, g2, ht]; try rfl
section
variable (x : Tf) (z a b : Int)
def oneP (d : Int) (k : Nat) : List (Int × Int × Int) :=
 if max (d + gd (brdF x) k) a < min (d + gd (brdF x) (k + 1)) b then [(max (d + gd (brdF x) k) a, min (d + gd (brdF x) (k + 1)) b, JcT x ((d + z + 604800) / 86400 % 7 * 86400 + gd (brdF x) k))] else []
def dayP (d : Int) : Nat -> List (Int × Int × Int)
 | 0 => []
 | k + 1 => dayP d k ++ oneP x z a b d k
def day0 : Int := a - (a + z + 604800) % 86400
def daysN : Nat -> List (Int × Int × Int)
 | 0 => []
 | n + 1 => daysN n ++ dayP x z a b (day0 z a + 86400 * n) ((brdF x).length - 1)
def dayC : Nat := ((b - day0 z a + 86399) / 86400).toNat
def pcsR : List (Int × Int × Int) := daysN x z a b (dayC z a b)
end
def sumP (l : List (Int × Int × Int)) : Int := (l.map λ q => q.2.2 * (q.2.1 - q.1)).sum
theorem sumP_app (l m : List (Int × Int × Int)) : sumP (l ++ m) = sumP l + sumP m := by simp [sumP]
theorem brd_ok {x : Tf} (h : JaT x = true) : BrdOK (brdF x) /\ (∀ r ∈ x.l, r.f ∈ brdF x /\ r.t ∈ brdF x) /\ (brdF x).length <= 22 := by
 obtain ⟨⟨e, g, i⟩, a⟩ := Ja9.1 h
 obtain ⟨b, _, c, d⟩ := brdN_ok x.l [0, 86400] brd0 a
 exact ⟨b, c, by simp only [L0e, L0r] at d; exact (by omega : (brdN [0, 86400] x.l).length <= 22)⟩
theorem asc_gd {o : List Int} (h : o.Pairwise (· < ·)) {i j : Nat} (b : j < o.length) (a : i < j) : gd o i < gd o j := by
 have := List.pairwise_iff_getElem.1 h i j (by omega) b a
 have c : gd o i = o[i] := by unfold gd; simp [show i < o.length by omega]
 have d : gd o j = o[j] := by unfold gd; simp [b]
 rw [c, d]; exact this
theorem brd_first {o : List Int} (h : BrdOK o) : 0 < o.length /\ gd o 0 = 0 := by
 obtain ⟨i, a, e⟩ := gd_of_mem h.bot
 refine ⟨by omega, ?_⟩
 have c := h.inn _ (Jaj o 0 (by omega))
 rcases Nat.eq_zero_or_pos i with rfl | b
 . exact e
 . have := asc_gd h.asc a b; omega
theorem brd_last {o : List Int} (h : BrdOK o) : 1 < o.length /\ gd o (o.length - 1) = 86400 := by
 obtain ⟨i, hi, e⟩ := gd_of_mem h.top
 obtain ⟨b1, b2⟩ := brd_first h
 have h0 := h.inn _ (Jaj o (o.length - 1) (by omega))
 have hi0 : 0 < i := by
  rcases Nat.eq_zero_or_pos i with rfl | hp
  . omega
  . exact hp
 refine ⟨by omega, ?_⟩
 rcases L1t i (o.length - 1) with hl | hl
 . have := asc_gd h.asc (i := i) (j := o.length - 1) (by omega) hl; omega
 . rw [show o.length - 1 = i by omega]; exact e
theorem brd_side {o : List Int} (h : BrdOK o) {k : Nat} (hk : k + 1 < o.length) {v : Int} (hv : v ∈ o) : v <= gd o k \/ gd o (k + 1) <= v := by
 obtain ⟨i, hi, rfl⟩ := gd_of_mem hv
 rcases L1t k i with h1 | h1
 . rcases L1t (k + 1) i with h2 | h2
   . exact .inr (Int.le_of_lt (asc_gd h.asc hi h2))
   . rw [show i = k + 1 by omega]; exact .inr (L1M _)
 . rcases L1t i k with h2 | h2
   . exact .inl (Int.le_of_lt (asc_gd h.asc (by omega) h2))
   . rw [show i = k by omega]; exact .inl (L1M _)
theorem rate_same {x : Tf} (h : JaT x = true) {k : Nat} (f : k + 1 < (brdF x).length) {w s : Int} (u : 0 <= w) (q : gd (brdF x) k <= s) (t : s < gd (brdF x) (k + 1)) : JcT x (w * 86400 + s) = JcT x (w * 86400 + gd (brdF x) k) := by
 obtain ⟨d, a, _⟩ := brd_ok h
 have y := d.inn _ (Jaj _ k (by omega))
 have z := d.inn _ (Jaj _ (k + 1) f)
 have i := λ v n => brd_side d f (v := v) n
 generalize gd (brdF x) k = c at *; generalize gd (brdF x) (k + 1) = e at *
 have b : ∀ r ∈ x.l, hitR (w * 86400 + s) r = hitR (w * 86400 + c) r := λ r g => by
  have A := i _ (a r g).1; have B := i _ (a r g).2; unfold hitR
  rw [show (w * 86400 + s) / 86400 = w by omega, show (w * 86400 + c) / 86400 = w by omega, show (w * 86400 + s) % 86400 = s by omega, show (w * 86400 + c) % 86400 = c by omega]
  apply decide_eq_decide.2
  refine and_congr Iff.rfl ?_
  omega
 have m : x.l.find? (hitR (w * 86400 + s)) = x.l.find? (hitR (w * 86400 + c)) := by
  generalize x.l = l at b; clear a
  induction l with
  | nil => rfl
  | cons r l o => rw [L2e, L2e, b r (by simp), o λ p j => b p (by simp [j])]
 unfold JcT; rw [m]
def clP (a b t : Int) : Int := max a (min t b)
theorem oneP_sum {x : Tf} (h : JaT x = true) {z a b d : Int} {k : Nat} (j : k + 1 < (brdF x).length) (o : Jbw z = true) (B : 0 <= a) (q : a <= b) (C : -86400 < d) (r : (d + z + 604800) % 86400 = 0) :
 sumP (oneP x z a b d k) = sumF x z (clP a b (d + gd (brdF x) k)) (clP a b (d + gd (brdF x) (k + 1))) := by
 have o := JbU.1 o
 obtain ⟨l, E, _⟩ := brd_ok h
 have F := l.inn _ (Jaj _ k (by omega))
 have G := l.inn _ (Jaj _ (k + 1) j); have H := asc_gd l.asc j (L27 k)
 have y := λ w s p m n => rate_same h j (w := w) (s := s) p m n
 unfold oneP; generalize gd (brdF x) k = c at *; generalize gd (brdF x) (k + 1) = e at *; unfold clP
 split
 . rename_i u
   rw [show max a (min (d + c) b) = max (d + c) a by omega, show max a (min (d + e) b) = min (d + e) b by omega]
   have m : d + c <= max (d + c) a := by omega
   have n : min (d + e) b <= d + e := by omega
   have A : 0 <= max (d + c) a := by omega
   generalize max (d + c) a = f at *; generalize min (d + e) b = t at *; unfold sumF
   rw [JfX (c := JcT x ((d + z + 604800) / 86400 % 7 * 86400 + c)) λ i D => ?_, L22 (by omega)]
   . simp [sumP]
   . unfold Jgj
     have g : locF z (f + i) = (d + z + 604800) / 86400 % 7 * 86400 + (f + i - d) := by unfold locF; omega
     rw [g]
     exact y _ _ (by omega) (by omega) (by omega)
 . rw [show max a (min (d + c) b) = max a (min (d + e) b) by omega]
   unfold sumF; rw [Int.sub_self]
   rfl
theorem dayP_sum {x : Tf} (h : JaT x = true) {z a b d : Int} (j : Jbw z = true) (f : 0 <= a) (c : a <= b) (g : -86400 < d) (e : (d + z + 604800) % 86400 = 0) :
 ∀ k : Nat, k < (brdF x).length -> sumP (dayP x z a b d k) = sumF x z (clP a b d) (clP a b (d + gd (brdF x) k))
 | 0, _ => by
  rw [(brd_first (brd_ok h).1).2, Int.add_zero, dayP]; unfold sumF
  rw [Int.sub_self]; rfl
 | k + 1, i => by
  obtain ⟨l, _, _⟩ := brd_ok h
  have m := l.inn _ (Jaj _ k (by omega))
  have n := asc_gd l.asc i (L27 k)
  rw [dayP, sumP_app, dayP_sum h j f c g e k (by omega), oneP_sum h i j f c g e]
  exact (Jfm x z (by unfold clP; omega) (by unfold clP; omega)).symm
theorem daysN_sum {x : Tf} (h : JaT x = true) {z a b : Int} (d : Jbw z = true) (f : 0 <= a) (c : a <= b) : ∀ n : Nat, sumP (daysN x z a b n) = sumF x z a (clP a b (day0 z a + 86400 * n))
 | 0 => by
  have : clP a b (day0 z a + 86400 * (0 : Nat)) = a := by unfold clP day0; omega
  rw [this, daysN]; unfold sumF
  rw [Int.sub_self]; rfl
 | n + 1 => by
  have g := JbU.1 d
  obtain ⟨j, i⟩ := brd_last (brd_ok h).1
  have e : ((n + 1 : Nat) : Int) = n + 1 := rfl
  rw [daysN, sumP_app, daysN_sum h d f c n, dayP_sum h d f c (by unfold day0; omega) (by unfold day0; omega) _ (by omega), i, e,
   show day0 z a + 86400 * ((n : Int) + 1) = day0 z a + 86400 * n + 86400 by omega]
  exact (Jfm x z (by unfold clP day0; omega) (by unfold clP; omega)).symm
theorem pcsR_sum {x : Tf} (h : JaT x = true) {z a b : Int} (d : Jbw z = true) (e : 0 <= a) (c : a <= b) : sumP (pcsR x z a b) = sumF x z a b := by
 have f := JbU.1 d; unfold pcsR
 rw [daysN_sum h d e c, show clP a b (day0 z a + 86400 * (dayC z a b : Nat)) = b by unfold clP dayC day0; omega]
abbrev PC3 (q : Int × Int × Int) : AV := .agg [I q.1, I q.2.1, I q.2.2]
abbrev PCS (l : List (Int × Int × Int)) : AV := .sl 3 (l.map PC3)
section
variable (p : Nat -> Bool) (l : List (Int × Int × Int))
@[go_sem] theorem namesL_PC3 : AV.namesL p (l.map PC3) = false := Jak p l PC3 λ _ => rfl
@[go_sem] theorem flatL_PC3 : AV.flatL (l.map PC3) = true := JaP l PC3 λ _ => rfl
@[go_sem] theorem allOK_PC3 : Jbv 3 (l.map PC3) = true := Jaw 3 l PC3 λ _ => ⟨rfl, rfl⟩
end
@[go_sem] theorem append_PC3 (l : List (Int × Int × Int)) (a b c : Int) : l.map PC3 ++ [.agg [.v (.int .i64 a), .v (.int .i64 b), .v (.int .i64 c)]] = (l ++ [((a, b, c) : Int × Int × Int)]).map PC3 := by simp
theorem dayP_len (x : Tf) (z a b d : Int) : ∀ k, (dayP x z a b d k).length <= k
 | 0 => L09 _
 | k + 1 => by
  have := dayP_len x z a b d k
  have c : (oneP x z a b d k).length <= 1 := by unfold oneP; split <;> simp
  rw [dayP, L0b]; omega
theorem daysN_len (x : Tf) (z a b : Int) : ∀ n, (daysN x z a b n).length <= (brdF x).length * n
 | 0 => by rw [daysN]; simp
 | n + 1 => by
  have := daysN_len x z a b n
  have c := dayP_len x z a b (day0 z a + 86400 * n) ((brdF x).length - 1)
  rw [daysN, L0b, Nat.mul_succ]; omega
def PI (x : Tf) (z a b : Int) (L : List (Int × Int × Int)) (d : Int) (E : Env) (c : Jac) : Prop :=
 E 1 = I z /\ E 3 = .ptr 291504176 2 0 0 /\ E 5 = .ptr 291504208 2 0 0 /\ E 7 = SL (brdF x) /\ E 8 = .own 291504256 3 0 L.length /\ E 9 = I d /\
 c 291504176 = some ⟨100, 2, [TF x]⟩ /\ c 291504208 = some ⟨56, 2, [.agg [I a, I b]]⟩ /\ c 291504256 = some ⟨243, 3, L.map PC3⟩
set_option maxHeartbeats 8000000 in
theorem pieces_ev (x : Tf) (z a b : Int) (hx : JaT x = true) (hz : Jbw z = true) (ha : 0 <= a) (ak : a <= b) (hb : b <= 10000000) : Ev prog 138 [TF x, I z, .agg [I a, I b]] (PCS (pcsR x z a b)) := by
 have ap := JbU.1 hz; have c1 := borders_ev x hx
 obtain ⟨ok, _, T⟩ := brd_ok hx
 obtain ⟨l1, l2⟩ := brd_last ok
 have X : a - (a + z + 604800).tmod 86400 = day0 z a := by rw [L0Z (by omega)]; rfl
 have al : -86400 < day0 z a /\ day0 z a <= a /\ (day0 z a + z + 604800) % 86400 = 0 := by unfold day0; omega
 have hC : ∀ n : Nat, day0 z a + 86400 * n < b ↔ n < dayC z a b := λ n => by unfold dayC; omega
 have ai : dayC z a b <= 200 := by unfold dayC; omega
 have hN : ∀ n : Nat, daysN x z a b (n + 1) = daysN x z a b n ++ dayP x z a b (day0 z a + 86400 * n) ((brdF x).length - 1) := λ n => rfl
 have S := daysN_len x z a b
 have J : pcsR x z a b = daysN x z a b (dayC z a b) := rfl
 have R : daysN x z a b 0 = [] := rfl
 refine Jch (r := .new 243 3 ((pcsR x z a b).map PC3)) ?_ _
 rw [J]; generalize day0 z a = c at *; generalize dayC z a b = C at *
 refine EV func138 ?_
 simp -implicitDefEqProofs (disch := omega) only [go_sem, ntmps138]
 refine Jaa c1 ?_
 simp -implicitDefEqProofs (disch := omega) only [go_sem, X]
 refine Jaf (λ m E D => ∃ n : Nat, n + m = C /\ PI x z a b (daysN x z a b n) (c + 86400 * n) E D) C ⟨0, by omega, ?_⟩ ?_
 . rw [R]; simp -implicitDefEqProofs (disch := omega) only [go_sem, PI]
   try ((repeat' apply And.intro) <;> first | rfl | simp)
 rintro m E D ⟨n, hn, j, l, o, p, g, q, s, t, i⟩
 have aj := S n; have N := hC n; have aa := hN n; simp -implicitDefEqProofs (disch := omega) only [go_sem, j, l, o, p, g, q, s, t, i]
 refine Jab (λ hc => ?_) (λ hc => ?_)
 rotate_left
 . obtain rfl : n = C := by omega
   simp -implicitDefEqProofs (disch := omega) only [go_sem, g, i, L04, results138]; try rfl
 have ao : n < C := N.1 hc
 have ab : (c + 86400 * (n : Int) + z + 604800).tdiv 86400 = (c + 86400 * (n : Int) + z + 604800) / 86400 := L1i (by omega)
 have ac : ((c + 86400 * (n : Int) + z + 604800) / 86400).tmod 7 = (c + 86400 * (n : Int) + z + 604800) / 86400 % 7 := L0Z (by omega)
 have an : -86400 < c + 86400 * (n : Int) /\ c + 86400 * (n : Int) <= 10000000 := by omega
 simp -implicitDefEqProofs (disch := omega) only [go_sem, j, l, o, p, g, q, s, t, i, ab, ac]
 have O : dayP x z a b (c + 86400 * (n : Int)) 0 = [] := rfl
 have P : ∀ k : Nat, dayP x z a b (c + 86400 * (n : Int)) (k + 1) = dayP x z a b (c + 86400 * (n : Int)) k ++ oneP x z a b (c + 86400 * (n : Int)) k := λ k => rfl
 have Q := dayP_len x z a b (c + 86400 * (n : Int))
 have L : ∀ k : Nat, oneP x z a b (c + 86400 * (n : Int)) k = if max (c + 86400 * (n : Int) + gd (brdF x) k) a < min (c + 86400 * (n : Int) + gd (brdF x) (k + 1)) b then [(max (c + 86400 * (n : Int) + gd (brdF x) k) a, min (c + 86400 * (n : Int) + gd (brdF x) (k + 1)) b, JcT x ((c + 86400 * (n : Int) + z + 604800) / 86400 % 7 * 86400 + gd (brdF x) k))] else [] := λ k => rfl
 have B : c + 86400 * (n : Int) + 86400 = c + 86400 * ((n + 1 : Nat) : Int) := by omega
 have ad : 0 <= (c + 86400 * (n : Int) + z + 604800) / 86400 % 7 /\ (c + 86400 * (n : Int) + z + 604800) / 86400 % 7 < 7 := by omega
 generalize am : c + 86400 * (n : Int) = d at *; generalize (d + z + 604800) / 86400 % 7 = w at *; generalize dayP x z a b d = F at *; generalize oneP x z a b d = ah at *; generalize daysN x z a b n = W at *
 have H := λ (k : Nat) (h : k < (brdF x).length) => ok.inn _ (Jaj _ k h)
 have U := λ (k : Nat) (h : k + 1 < (brdF x).length) => asc_gd ok.asc h (L27 k)
 refine Jaf (λ m E D => ∃ k : Nat, k + m + 1 = (brdF x).length /\ PI x z a b (W ++ F k) d E D /\ E 10 = I w /\ E 11 = I k) ((brdF x).length - 1) ⟨0, by omega, ?_⟩ ?_
 . rw [O, L0F]; simp -implicitDefEqProofs (disch := omega) only [go_sem, PI, j, l, o, p, g, q, s, t, i]
   try ((repeat' apply And.intro) <;> rfl)
 clear j l o p g q s t i E D
 rintro m' E D ⟨k, hk, ⟨j, l, o, p, g, q, s, t, i⟩, e, f⟩
 simp -implicitDefEqProofs (disch := omega) only [go_sem, j, l, o, p, g, q, s, t, i, e, f]
 refine Jab (λ V => ?_) (λ V => ?_)
 rotate_left
 . have Z : k = (brdF x).length - 1 := by omega
   rw [Z] at g i; rw [<- aa] at g i; simp -implicitDefEqProofs (disch := omega) only [go_sem, j, l, o, p, g, q, s, t, i, e, f]
   refine Jad (C - (n + 1)) (by omega) ⟨n + 1, by omega, ?_⟩
   simp -implicitDefEqProofs (disch := omega) only [go_sem, PI, j, l, o, p, g, q, s, t, i, e, f, B]; try rfl
 have K : k + 1 < (brdF x).length := by omega
 have Y : k < (brdF x).length := by omega
 have g1 := H k Y; have g2 := H (k + 1) K; have g3 := U k K
 have u : ((k : Int) + 1).toNat = k + 1 := by omega
 have ae := on37_ev x w (gd (brdF x) k) hx ad (by omega)
 have G := P k; have y := L k; have af := Q k
 have ag : W.length + (F k).length <= 10000 := by
  have : (brdF x).length * n <= 22 * 200 := Nat.mul_le_mul T (by omega)
  omega
 simp -implicitDefEqProofs (disch := omega) only [go_sem, j, l, o, p, g, q, s, t, i, e, f, u]
 have M : (W ++ F k).take (W.length + (F k).length) = W ++ F k := by rw [<- L0b, L04]
 refine Jab (λ A => ?_) (λ A => ?_)
 . rw [if_pos A] at y; simp -implicitDefEqProofs (disch := omega) only [go_sem, j, l, o, p, g, q, s, t, i, e, f, u]
   refine Jaa ae ?_
   simp -implicitDefEqProofs (disch := omega) only [go_sem, j, l, o, p, g, q, s, t, i, e, f, u, M]
   refine Jad ((brdF x).length - 1 - (k + 1)) (by omega) ⟨k + 1, by omega, ?_⟩
   rw [G, y, <- L0E]; simp -implicitDefEqProofs (disch := omega) only [go_sem, PI, j, l, o, p, g, q, s, t, i, e, f, u, M]; try rfl
 . rw [if_neg A] at y; simp -implicitDefEqProofs (disch := omega) only [go_sem, j, l, o, p, g, q, s, t, i, e, f, u]
   refine Jad ((brdF x).length - 1 - (k + 1)) (by omega) ⟨k + 1, by omega, ?_⟩
   rw [G, y, L0F]; simp -implicitDefEqProofs (disch := omega) only [go_sem, PI, j, l, o, p, g, q, s, t, i, e, f, u]; try rfl
def PcIn (b : Int) (q : Int × Int × Int) : Prop := (0 <= q.2.2 /\ q.2.2 <= 1000000) /\ (0 <= q.2.1 - q.1 /\ q.2.1 - q.1 <= 10000000) /\ 0 <= q.1 /\ q.2.1 <= b
theorem oneP_in {x : Tf} (h : JaT x = true) {z a b d : Int} (e : 0 <= a) (f : b <= 10000000) (k : Nat) : ∀ q ∈ oneP x z a b d k, PcIn b q := λ q c => by
 unfold oneP at c
 split at c
 . obtain rfl := L0u.1 c
   exact ⟨Jjh h _, by simp only; omega, by simp only; omega, by simp only; omega⟩
 . cases c
theorem dayP_in {x : Tf} (h : JaT x = true) {z a b d : Int} (ha : 0 <= a) (hb : b <= 10000000) : ∀ k, ∀ q ∈ dayP x z a b d k, PcIn b q
 | 0, q, hq => by cases hq
 | k + 1, q, hq => by
  rw [dayP] at hq
  rcases L0t.1 hq with hq | hq
  . exact dayP_in h ha hb k q hq
  . exact oneP_in h ha hb k q hq
theorem daysN_in {x : Tf} (h : JaT x = true) {z a b : Int} (ha : 0 <= a) (hb : b <= 10000000) : ∀ n, ∀ q ∈ daysN x z a b n, PcIn b q
 | 0, q, hq => by cases hq
 | n + 1, q, hq => by
  rw [daysN] at hq
  rcases L0t.1 hq with hq | hq
  . exact daysN_in h ha hb n q hq
  . exact dayP_in h ha hb _ q hq
theorem pcsR_len {x : Tf} (h : JaT x = true) (z : Int) {a b : Int} (e : Jbw z = true) (j : 0 <= a) (d : a <= b) (k : b <= 10000000) : (pcsR x z a b).length <= 4400 := by
 have f := JbU.1 e; have g := daysN_len x z a b (dayC z a b)
 have c : dayC z a b <= 200 := by unfold dayC day0; omega
 have i : (brdF x).length * dayC z a b <= 22 * 200 := Nat.mul_le_mul (brd_ok h).2.2 c
 unfold pcsR; omega
theorem sumP_snoc (l : List (Int × Int × Int)) (i : Nat) (h : i < l.length) : sumP (l.take (i + 1)) = sumP (l.take i) + (gd l i).2.2 * ((gd l i).2.1 - (gd l i).1) := by
 rw [List.take_succ_eq_append_getElem h, sumP_app, show l[i] = gd l i by unfold gd; simp [h]]
 simp [sumP]
theorem sumP_in {b : Int} (l : List (Int × Int × Int)) (h : ∀ q ∈ l, PcIn b q) : 0 <= sumP l /\ sumP l <= 10000000000000 * l.length := by
 induction l with
 | nil => simp [sumP]
 | cons q l i =>
  have k := i λ j g => h j (by simp [g])
  obtain ⟨⟨c, d⟩, ⟨a, f⟩, _⟩ := h q (by simp)
  have m : 0 <= q.2.2 * (q.2.1 - q.1) := L1f c a
  have n : q.2.2 * (q.2.1 - q.1) <= 1000000 * 10000000 := Int.mul_le_mul d f a (by omega)
  have e : sumP (q :: l) = q.2.2 * (q.2.1 - q.1) + sumP l := by simp [sumP]
  rw [e, L0e]; omega
set_option maxHeartbeats 2000000 in
theorem sum37_ev (x : Tf) (z a b : Int) (j : JaT x = true) (p : Jbw z = true) (g : 0 <= a) (c : a <= b) (o : b <= 10000000) : Ev prog 105 [TF x, I z, .agg [I a, I b]] (I (sumF x z a b)) := by
 have y := pieces_ev x z a b j p g c o
 have f : ∀ q ∈ pcsR x z a b, PcIn b q := daysN_in j g o _
 have H := pcsR_len j z p g c o; rw [<- pcsR_sum j p g c]; generalize pcsR x z a b = l at *
 refine EV func105 ?_
 simp -implicitDefEqProofs (disch := omega) only [go_sem, ntmps105]
 refine Jaa y ?_
 simp -implicitDefEqProofs (disch := omega) only [go_sem]
 refine Jaf (λ m E C => ∃ i : Nat, i + m = l.length /\ E 7 = PCS l /\ E 8 = I (sumP (l.take i)) /\ E 9 = I i) l.length ⟨0, by omega, ?_⟩ ?_
 . simp -implicitDefEqProofs (disch := omega) only [go_sem]
   exact ⟨rfl, rfl⟩
 rintro m E C ⟨i, G, k, d, n⟩
 simp -implicitDefEqProofs (disch := omega) only [go_sem, k, d, n]
 refine Jab (λ A => ?_) (λ A => ?_)
 . have e : i < l.length := by omega
   have B := sumP_snoc l i e
   obtain ⟨⟨t, u⟩, ⟨r, w⟩, D, F⟩ := f _ (Jaj l i e)
   have J : 0 <= (gd l i).2.2 * ((gd l i).2.1 - (gd l i).1) := L1f t r
   have K : (gd l i).2.2 * ((gd l i).2.1 - (gd l i).1) <= 1000000 * 10000000 := Int.mul_le_mul u w r (by omega)
   have s := sumP_in (l.take i) λ q h => f q (L0J h)
   rw [L01] at s
   have s : 0 <= sumP (l.take i) /\ sumP (l.take i) <= 10000000000000 * 4400 := by omega
   generalize h : gd l i = q at *; obtain ⟨L, N, M⟩ := q
   simp only at *
   simp -implicitDefEqProofs (disch := omega) only [go_sem, k, d, n, h]
   refine Jad (l.length - (i + 1)) (by omega) ⟨i + 1, by omega, ?_⟩
   rw [B]; simp -implicitDefEqProofs (disch := omega) only [go_sem, k, d, n, h]; try rfl
 . obtain rfl : i = l.length := by omega
   rw [L04] at d; simp -implicitDefEqProofs (disch := omega) only [go_sem, d, results105]
theorem amount37_ev (x : Tf) (z a b : Int) (c : JaT x = true) (d : Jbw z = true) (f : Jda a b = true) : Ev prog 56 [TF x, I z, SP2 a b] (.tup [I (amtF x z a b), I 0]) := by
 have i := good37_ev x z a b c d f
 obtain ⟨o, p, l⟩ := Jdb.1 f
 have j := sum37_ev x z 0 b c d (by omega) (by omega) l
 have k := sum37_ev x z 0 a c d (by omega) (by omega) (by omega)
 have m := JcC c z 0 b (by omega)
 have n := JcC c z 0 a (by omega)
 have g : (sumF x z 0 b).tdiv 60 = sumF x z 0 b / 60 := L1i m.1
 have h : (sumF x z 0 a).tdiv 60 = sumF x z 0 a / 60 := L1i n.1
 have e : amtF x z a b = sumF x z 0 b / 60 - sumF x z 0 a / 60 := rfl
 rw [e]; generalize sumF x z 0 b = r at *; generalize sumF x z 0 a = q at *
 refine EV func56 ?_
 simp -implicitDefEqProofs (disch := omega) only [go_sem, ntmps56]
 refine Jaa i ?_
 simp -implicitDefEqProofs (disch := omega) only [go_sem]
 refine Jaa j ?_
 simp -implicitDefEqProofs (disch := omega) only [go_sem, g, h]
 refine Jaa k ?_
 simp -implicitDefEqProofs (disch := omega) only [go_sem, g, h, results56]
theorem billsR_bad (t : Tp) (g : t.ok) (h : JbA t = false) : Ev prog 34 [TPP t] (.tup [BLS [], I 380]) := by
 have a := tripR_ev t g; rw [h] at a
 refine Jch (r := .tup [.new 58 5 [], I 380]) ?_ _
 obtain ⟨c, d, f, j, e, i, ⟨⟨l, n, o, p⟩, m⟩, b, k⟩ := t
 try simp only at *
 refine EW [8] func34 ?_
 simp -implicitDefEqProofs (disch := omega) only [go_sem, ntmps34]
 refine Jaa a ?_
 simp -implicitDefEqProofs (disch := omega) only [go_sem, results34]
set_option maxHeartbeats 8000000 in
theorem billsR_ok (t : Tp) (z : t.ok) (h : JbA t = true) : Ev prog 34 [TPP t] (.tup [BLS (JaZ t), I 0]) := by
 have V := tripR_ev t z; rw [h] at V; have hl := (Jaz.1 h).2.1
 obtain ⟨_, _, aa, ab, Q, _, _⟩ := Jaz.1 h
 have o := λ i => JgK h (i := i)
 have p := λ i G => payerR_ev t z h i G
 have w := Jbr t
 have F := λ i => JjO t (i := i)
 have k : ∀ i, Jlf t i = ⟨payF t i, (gd t.legs i).t, (Jbo t (gd t.legs i)).1.1, (Jbo t (gd t.legs i)).1.2, amtF (gd t.tfs (gd t.legs i).t.toNat) (gd t.offs (gd t.legs i).t.toNat) (Jbo t (gd t.legs i)).1.1 (Jbo t (gd t.legs i)).1.2⟩ := λ i => rfl
 have c : ∀ l : Lg, legF l = true -> Ev prog 55 [CKP (gd t.cks l.f.toNat), CKP (gd t.cks l.t.toNat), LGP l, Str t.key, PTP t.part] (bi3 (Jbo t l)) := λ l H => by
  obtain ⟨⟨f1, f2, f3⟩, _⟩ := JbC.1 H
  exact Jnz _ _ l t.key t.part H z.part (z.rds _ (Jaj _ _ (by omega))) (z.rds _ (Jaj _ _ (by omega)))
 have K : ∀ l : Lg, Jda (Jbo t l).1.1 (Jbo t l).1.2 = true := λ l => (Jlg _ _ _ l).1
 have x := z.good
 have B : ∀ n ∈ t.offs, Jbw n = true := L0f.1 Q
 have M : ∀ i, i < t.legs.length -> (JaZ t).take (i + 1) = (JaZ t).take i ++ [Jlf t i] := λ i G => by
  rw [List.take_succ_eq_append_getElem (by omega)]
  have := F i G
  rw [<- this]; unfold gd; simp [w, G]
 have X : (JaZ t).length <= 1000 := by rw [w]; omega
 refine Jch (r := .tup [.new 58 5 ((JaZ t).map BLP), I 0]) ?_ _
 generalize JaZ t = L at *; generalize Jbo t = Y at *; generalize Jlf t = BF at *; generalize payF t = Z at *; clear h z F
 obtain ⟨J, a, q, j, b, R, ⟨⟨pc, pn, pr, ps⟩, pl⟩, D, S⟩ := t
 simp only at *
 refine EW [8] func34 ?_
 simp -implicitDefEqProofs (disch := omega) only [go_sem, ntmps34]
 refine Jaa V ?_
 simp -implicitDefEqProofs (disch := omega) only [go_sem]
 refine Jaf (λ m E T => ∃ i : Nat, i + m = a.length /\ E 1 = .ptr 73400336 13 0 0 /\ E 4 = .own 73400384 5 0 (L.take i).length /\ E 5 = I i /\ T 73400384 = some ⟨58, 5, (L.take i).map BLP⟩ /\
  T 73400336 = some ⟨41, 13, [.agg [HPS J, LGS a, CKS q, TFS j, SL b, Str R, I pc, I pn, Str pr, Str ps, ITS pl, Str D, SLs S]]⟩) a.length ⟨0, by omega, ?_⟩ ?_
 . simp -implicitDefEqProofs (disch := omega) only [go_sem]
   try ((repeat' apply And.intro) <;> rfl)
 rintro m E T ⟨i, G, s, e, u, g, C⟩
 simp -implicitDefEqProofs (disch := omega) only [go_sem, s, e, u, g, C]
 refine Jab (λ hc => ?_) (λ hc => ?_)
 . have y : i < a.length := by omega
   obtain ⟨O, g2, g3⟩ := o i y
   have a1 := p i y; have a2 := c (gd a i) O; have a3 := K (gd a i); have U := k i; have N := M i y
   have a7 : (L.take i).length = i := by rw [L01]; omega
   obtain ⟨⟨f1, f2, f3⟩, _⟩ := JbC.1 O
   have a5 := amount37_ev (gd j (gd a i).t.toNat) (gd b (gd a i).t.toNat) _ _ (x _ (Jaj _ _ (by omega))) (B _ (Jaj _ _ (by omega))) a3
   have b1 : (gd a i).f.toNat < q.length := by omega
   have b2 : (gd a i).t.toNat < q.length := by omega
   have b3 : (gd a i).t.toNat < j.length := by omega
   have b4 : (gd a i).t.toNat < b.length := by omega
   rw [U] at N; clear U k c p K o O g2 g3 M; generalize L.take i = Li at *; generalize hW : Y (gd a i) = W at *; generalize Z i = P at *; generalize hA : amtF (gd j (gd a i).t.toNat) (gd b (gd a i).t.toNat) W.1.1 W.1.2 = A at *; generalize d : gd a i = l at *; obtain ⟨lf, lt, lg, lk⟩ := l
   obtain ⟨⟨w1, w2⟩, w3⟩ := W
   simp only at *
   clear hW hA; simp -implicitDefEqProofs (disch := omega) only [go_sem, s, e, u, g, C, d]
   refine Jjj Plain.mono ?_
   simp -implicitDefEqProofs (disch := omega) only [go_sem, s, e, u, g, C, d, false_and, and_self]
   refine Jaa a2 ?_
   simp -implicitDefEqProofs (disch := omega) only [go_sem, s, e, u, g, C, d, false_and, and_self]
   refine Jaa a5 ?_
   simp -implicitDefEqProofs (disch := omega) only [go_sem, s, e, u, g, C, d, false_and, and_self]
   refine Jaa a1 ?_
   simp -implicitDefEqProofs (disch := omega) only [go_sem, s, e, u, g, C, d, false_and, and_self, L04]
   refine Jad (a.length - (i + 1)) (by omega) ⟨i + 1, by omega, ?_⟩
   rw [N]; simp -implicitDefEqProofs (disch := omega) only [go_sem, s, e, u, g, C, N, L0b, L04]; try rfl
 . obtain rfl : i = a.length := by omega
   rw [<- w, L04] at e g; simp -implicitDefEqProofs (disch := omega) only [go_sem, e, g, L04, results34]; try rfl
theorem bent_ok (t : Tp) (a b c : Int) (d : t.ok) (f : t.legs.length <= 1000) : (bentF t a b c).ok := by
 unfold bentF
 split
 . refine ⟨d.part, d.rds, d.good, d.hops, ?_, d.cks, d.tfs, d.offs, d.ups⟩
   simp only
   repeat' split
   all_goals simp only [L24, L0b, L0e, L0r]; omega
 split
 . exact ⟨d.part, d.rds, d.good, by simpa using d.hops, d.legs, d.cks, d.tfs, d.offs, d.ups⟩
 split
 . exact ⟨d.part, d.rds, d.good, by simpa using d.hops, d.legs, d.cks, d.tfs, d.offs, d.ups⟩
 split
 . exact ⟨d.part, d.rds, d.good, d.hops, d.legs, d.cks, d.tfs, by simpa using d.offs, d.ups⟩
 split
 . exact ⟨d.part, d.rds, d.good, d.hops, d.legs, d.cks, d.tfs, d.offs, d.ups⟩
 split
 . exact ⟨d.part, d.rds, d.good, d.hops, d.legs, d.cks, d.tfs, d.offs, by have := d.ups; simp only [L01]; omega⟩
 . exact ⟨d.part, λ c e => d.rds c (L0J e), d.good, d.hops, d.legs, by have := d.cks; simp only [L01]; omega, d.tfs, d.offs, d.ups⟩
section
variable (p : Nat -> Bool) (l : List Tp)
@[go_sem] theorem namesL_TPP : AV.namesL p (l.map TPP) = false := Jak p l TPP λ _ => by simp only [go_sem]
@[go_sem] theorem allOK_TPP : Jbv 13 (l.map TPP) = true := Jaw 13 l TPP λ _ => ⟨rfl, rfl⟩
end
theorem dn_TPP (t : Tp) : (TPP t).dn = false := by
 have a : AV.dnL (t.hops.map HPP) = false := Jbc HPP (λ x => by simp only [AV.dn, AV.dnL, L14]) _
 have b : AV.dnL (t.legs.map LGP) = false := Jbc LGP (λ x => by simp only [AV.dn, AV.dnL, L14]) _
 have c : AV.dnL (t.cks.map CKP) = false := Jbc CKP JtS _
 have d : AV.dnL (t.tfs.map TF) = false := Jbc TF JxY _
 have e : AV.dnL (t.part.l.map ITP) = false := Jbc ITP (λ x => by simp only [AV.dn, AV.dnL, Jbc _ (λ x => AV.dn.eq_2 _), L14]) _
 have f : AV.dnL (t.ups.map Str) = false := Jbc Str (λ x => AV.dn.eq_2 _) _
 simp only [AV.dn, AV.dnL, a, b, c, d, e, f, JxW, L14]
instance : Inhabited Tp := ⟨⟨[], [], [], [], [], .empty, ⟨⟨0, 0, .empty, .empty⟩, []⟩, .empty, []⟩⟩
end Go.Proofs.YtlecbpkidomjbaaGreatDoor
set_option maxRecDepth 100000
namespace Go.Proofs.YtlecbpkidomjbaaGreatDoor.Au
open Go.Proofs.Tryz
open Go.Vai Go Go.Proofs Go.Proofs.YtlecbpkidomjbaaGreatDoor
theorem pick40_ev (c n : Int) (a : R64 c) (e : 0 < n) : Ev prog 8 [I c, I n] (I (Jag c n)) := by
 obtain ⟨b, d⟩ := a
 refine EV func8 ?_
 simp -implicitDefEqProofs (disch := omega) only [go_sem, ntmps8]
 refine Jab (λ h => ?_) (λ h => ?_) <;> simp -implicitDefEqProofs (disch := omega) only [go_sem, results8]
 . rw [show (0 - (c+1)) = -(c+1) from by omega]; simp [Jag, h]
 . simp [Jag, h]
theorem amt_pos {x : Tf} (h : JaT x = true) (z : Int) {a b : Int} (e : 0 <= a) (d : a <= b) : 0 <= amtF x z a b := by
 have f := Jfm x z (a := 0) (b := a) (c := b) e d
 have g := JcC h z a b d; have i := JcC h z 0 a e
 unfold amtF; omega
theorem bill_pos {t : Tp} (h : JbA t = true) {b : Bl} (d : b ∈ JaZ t) : 0 <= b.a := by
 obtain ⟨i, g, rfl⟩ := L05.1 d
 have j := (JbC.1 (JgK h (L1a.1 g)).1).1.2.1
 have e := L0f.1 (Jaz.1 h).2.2.2.1 _ (Jaj t.tfs (gd t.legs i).t.toNat (by have := (Jaz.1 h).2.1; omega))
 have c := Jdb.1 (Jlg (evF t.key t.part) (gd t.cks (gd t.legs i).f.toNat) (gd t.cks (gd t.legs i).t.toNat) (gd t.legs i)).1
 exact amt_pos e (gd t.offs (gd t.legs i).t.toNat) c.1 c.2.1
theorem charged_bad (t : Tp) (e : t.ok) (h : Int) (l : ByteArray) (w : l.size <= 1000) (i : (JbA t && inF h 0 63 && decide (l.size <= 100)) = false) : Ev prog 9 [TPP t, I h, Str l] (.tup [CL [], I 400]) := by
 have n := JbT h 0 63
 refine Jch (r := .tup [.new 84 5 [], I 400]) ?_ _
 cases h1 : JbA t
 . have f := JnA t e h1; clear e h1 i
   obtain ⟨b, c, g, k, d, j, ⟨⟨o, q, s, u⟩, p⟩, a, m⟩ := t
   refine EV func9 ?_
   simp -implicitDefEqProofs (disch := omega) only [go_sem, ntmps9]
   refine Jaa f ?_
   simp -implicitDefEqProofs (disch := omega) only [go_sem, results9]
 . have f := JjP t e h1; rw [h1, L0d] at i; clear e h1; generalize JaZ t = L at *
   obtain ⟨b, c, g, k, d, j, ⟨⟨o, q, s, u⟩, p⟩, a, m⟩ := t
   refine EV func9 ?_
   simp -implicitDefEqProofs (disch := omega) only [go_sem, ntmps9]
   refine Jaa f ?_
   simp -implicitDefEqProofs (disch := omega) only [go_sem]
   refine Jaa n ?_
   generalize inF h 0 63 = x at *
   cases x
   . simp -implicitDefEqProofs (disch := omega) only [go_sem, results9]
   . simp only [L0d, decide_eq_false_iff_not] at i; simp -implicitDefEqProofs (disch := omega) only [go_sem]
     refine Ja0 (by omega) ?_
     simp -implicitDefEqProofs (disch := omega) only [go_sem, results9]
theorem chargedR_bad (t : Tp) (e : t.ok) (h : Int) (l : ByteArray) (w : l.size <= 1000) (i : (JbA t && inF h 0 63 && decide (l.size <= 100)) = false) : Ev prog 10 [TPP t, I h, Str l] (.tup [CL [], I 400]) := by
 have n := Jt0 h 0 63
 refine Jch (r := .tup [.new 84 5 [], I 400]) ?_ _
 cases h1 : JbA t
 . have f := billsR_bad t e h1; clear e h1 i
   obtain ⟨b, c, g, k, d, j, ⟨⟨o, q, s, u⟩, p⟩, a, m⟩ := t
   refine EV func10 ?_
   simp -implicitDefEqProofs (disch := omega) only [go_sem, ntmps10]
   refine Jaa f ?_
   simp -implicitDefEqProofs (disch := omega) only [go_sem, results10]
 . have f := billsR_ok t e h1; rw [h1, L0d] at i; clear e h1; generalize JaZ t = L at *
   obtain ⟨b, c, g, k, d, j, ⟨⟨o, q, s, u⟩, p⟩, a, m⟩ := t
   refine EV func10 ?_
   simp -implicitDefEqProofs (disch := omega) only [go_sem, ntmps10]
   refine Jaa f ?_
   simp -implicitDefEqProofs (disch := omega) only [go_sem]
   refine Jaa n ?_
   generalize inF h 0 63 = x at *
   cases x
   . simp -implicitDefEqProofs (disch := omega) only [go_sem, results10]
   . simp only [L0d, decide_eq_false_iff_not] at i; simp -implicitDefEqProofs (disch := omega) only [go_sem]
     refine Ja0 (by omega) ?_
     simp -implicitDefEqProofs (disch := omega) only [go_sem, results10]
set_option maxHeartbeats 2000000 in
theorem chargedR_ev (t : Tp) (M : t.ok) (h : Int) (g : ByteArray) (y : JbA t = true) (T : inF h 0 63 = true) (h3 : g.size <= 100) : Ev prog 10 [TPP t, I h, Str g] (if (JaZ t).all Jb7 = true then .tup [CL (chgF h g (JaZ t)), I 0] else .tup [CL [], I 400]) := by
 have Q := billsR_ok t M y
 have B := λ b B => Jpk y (b := b) B
 have W := λ b B => bill_pos y (b := b) B
 have hl : (JaZ t).length <= 11 := by have := (Jaz.1 y).2.1; rw [Jbr]; omega
 generalize JaZ t = L at *; have H := Jt0 h 0 63; rw [T] at H
 suffices core : ∀ R : AV, (L.all Jb7 = true -> R = .tup [.new 84 5 ((chgF h g L).map CH), I 0]) -> (L.all Jb7 = false -> R = .tup [.new 84 5 [], I 400]) -> Ev prog 10 [TPP t, I h, Str g] R by
  by_cases ho : L.all Jb7 = true
  . rw [if_pos ho]; exact Jch (core _ (λ _ => rfl) (λ A => absurd ho (by rw [A]; decide))) _
  . rw [if_neg ho]; exact Jch (core _ (λ A => absurd A ho) (λ _ => rfl)) _
 intro R U V
 clear M y
 obtain ⟨K, N, S, Z, O, Y, ⟨⟨pc, pn, pr, ps⟩, pl⟩, J, aa⟩ := t
 refine EV func10 ?_
 simp -implicitDefEqProofs (disch := omega) only [go_sem, ntmps10]
 refine Jaa Q ?_
 simp -implicitDefEqProofs (disch := omega) only [go_sem]
 refine Jaa H ?_
 simp -implicitDefEqProofs (disch := omega) only [go_sem]
 refine Jam (by omega) ?_
 simp -implicitDefEqProofs (disch := omega) only [go_sem]
 refine Jaf (λ n E P => ∃ v : Nat, v + n = L.length /\ (L.take v).all Jb7 = true /\ E 1 = I h /\ E 2 = Str g /\ E 8 = BLS L /\ E 10 = .own 23068832 5 0 (chgF h g (L.take v)).length /\ E 11 = I v /\ P 23068832 = some ⟨84, 5, (chgF h g (L.take v)).map CH⟩) L.length ⟨0, by omega, rfl, ?_⟩ ?_
 . simp -implicitDefEqProofs (disch := omega) only [go_sem, chgF]
   simp
 rintro n E P ⟨v, hv, i, l, m, o, c, d, k⟩
 have G : (chgF h g (L.take v)).length <= 11 := by
  have := Jet h g (L.take v)
  rw [L01] at this; omega
 simp -implicitDefEqProofs (disch := omega) only [go_sem, l, m, o, c, d, k]
 refine Jab (λ X => ?_) (λ X => ?_)
 rotate_left
 . have e : v = L.length := by omega
   subst e; rw [L04] at c k G i; rw [U i]; simp -implicitDefEqProofs (disch := omega) only [go_sem, l, m, o, c, d, k, L04, results10]
 have s : v < L.length := by omega
 have j := Jmw h g L s; have r := Jmo L s i
 have w := λ A => V (Jo6 s A)
 have D := W _ (Jaj L v s); generalize x : gd L v = b at *; obtain ⟨p, q, f, u, a⟩ := b; simp only [chg1, Jb7] at j r w D; simp -implicitDefEqProofs (disch := omega) only [go_sem, l, m, o, c, d, k, x]
 refine Jab (λ C => ?_) (λ C => ?_)
 . simp -implicitDefEqProofs (disch := omega) only [go_sem, l, m, o, c, d, k, x]; subst C; rw [if_pos rfl, L0F] at j
   refine Jad (n - 1) (by omega) ⟨v + 1, by omega, by rw [r]; simp, ?_⟩
   rw [j]; simp -implicitDefEqProofs (disch := omega) only [go_sem, l, m, o, c, d, k, x]
   simp
 rw [if_neg C] at j; rw [decide_eq_false C, L1F] at r w
 have z : (chgF h g (L.take v)).map CH ++ [.agg [I h, I p, I q, I a, Str g]] = (chgF h g (L.take v) ++ [(⟨h, p, q, a, g⟩ : Ch)]).map CH := JjK (chgF h g (L.take v)) ⟨h, p, q, a, g⟩
 simp -implicitDefEqProofs (disch := omega) only [go_sem, l, m, o, c, d, k, x]
 refine Jab (λ F => ?_) (λ F => ?_)
 . rw [w (decide_eq_false (by omega))]
   simp -implicitDefEqProofs (disch := omega) only [go_sem, l, m, o, c, d, k, x, results10]
 . simp -implicitDefEqProofs (disch := omega) only [go_sem, l, m, o, c, d, k, x, z, L04]
   refine Jad (n - 1) (by omega) ⟨v + 1, by omega, r.trans (decide_eq_true (by omega)), ?_⟩
   rw [j]; simp -implicitDefEqProofs (disch := omega) only [go_sem, l, m, o, c, d, k, x, z, L04]
   simp
theorem charged_both (t : Tp) (c : t.ok) (h : Int) (a : ByteArray) (k : a.size <= 1000) : ∃ C e, C.length <= 1000 /\ Ev prog 9 [TPP t, I h, Str a] (.tup [CL C, I e]) /\ Ev prog 10 [TPP t, I h, Str a] (.tup [CL C, I e]) := by
 cases hb : (JbA t && inF h 0 63 && decide (a.size <= 100))
 . exact ⟨[], 400, L17 _, charged_bad t c h a k hb, chargedR_bad t c h a k hb⟩
 simp only [L00, decide_eq_true_eq] at hb
 obtain ⟨⟨f, i⟩, j⟩ := hb
 have d := JnM t c h a f i j; have b := chargedR_ev t c h a f i j
 have l : (JaZ t).length <= 11 := by have := (Jaz.1 f).2.1; rw [Jbr]; omega
 have := Jet h a (JaZ t)
 split at d
 . rename_i g; rw [if_pos g] at b
   exact ⟨_, _, by omega, d, b⟩
 . rename_i g; rw [if_neg g] at b
   exact ⟨[], 400, L17 _, d, b⟩
set_option maxHeartbeats 8000000 in
theorem auditMatch_ev (x : Nm) (a b c q : Int) (s : ByteArray) (hx : x.ok) (ha : R64 a) (hb : R64 b) (hc : R64 c) (hq : R64 q) (hs : s.size <= 9223372036854775807) : Ev prog 3 [NMP x, I a, I b, I c, I q, Str s] (B true) := by
 have d0 := JvH; have d1 := JlO x hx; have ht := Jqx x hx; have hv := JbQ x; generalize Jca x = t at *; have d2 := bent_ev t a b c ht hv ha hb hc; have hlen := (Jaz.1 hv).2.1
 have ht2 := bent_ok t a b c ht (by omega)
 generalize bentF t a b c = u at *
 have d3 := pick40_ev q 64 hq (by omega)
 have hall : ∀ y ∈ [t, u], y.ok := λ y hy => by
  rcases L0q.1 hy with rfl | hy
  . exact ht
  . rw [L0u.1 hy]; exact ht2
 have hqm : [AV.v (.int .i64 q), AV.v (.int .i64 (Jag q 64))] = [q, Jag q 64].map I := rfl
 have hql : ([q, Jag q 64] : List Int).length = 2 := rfl
 have hT : [TPP t, TPP u] = [t, u].map TPP := rfl
 have hTl : ([t, u] : List Tp).length = 2 := rfl
 obtain ⟨xh, xl, xc, xb, xr, xo, xw⟩ := x
 refine EV func3 ?_
 simp -implicitDefEqProofs (disch := omega) only [go_sem, ntmps3]
 refine Jaa d0 ?_
 simp -implicitDefEqProofs (disch := omega) only [go_sem]
 have hcut : (s.extract 0 (min (s.size : Int) 101).toNat).size <= 1000 := by rw [ByteArray.size_extract]; omega
 generalize s.extract 0 (min (s.size : Int) 101).toNat = tx at *
 refine Jaa d1 ?_
 simp -implicitDefEqProofs (disch := omega) only [go_sem]
 refine Jaa d2 ?_ (h4 := .inr (dn_TPP u))
 simp -implicitDefEqProofs (disch := omega) only [go_sem]; generalize hlt : [t, u] = lt at *; generalize hlq : [q, Jag q 64] = lq at *
 refine Jaf (λ m E σ => ∃ i : Nat, i + m = 2 /\ E 4 = I q /\ E 5 = Str tx /\ E 13 = B true /\ E 39 = .own 8389232 13 0 2 /\ E 40 = I 2 /\ E 41 = I i /\ σ 8389232 = some ⟨41, 13, lt.map TPP⟩) 2 ⟨0, by omega, ?_⟩ ?_
 . rw [<- hT]; simp -implicitDefEqProofs (disch := omega) only [go_sem]
   try ((repeat' apply And.intro) <;> rfl)
 rintro m E σ ⟨i, hi, e4, e5, e13, e39, e40, e41, m39⟩
 simp -implicitDefEqProofs (disch := omega) only [go_sem, e4, e5, e13, e39, e40, e41, m39]
 refine Jab (λ hc => ?_) (λ hc => ?_)
 rotate_left
 . simp -implicitDefEqProofs (disch := omega) only [go_sem, e13, results3]
 have hil : i < lt.length := by omega
 have hok := hall _ (Jaj lt i hil)
 have p1 := λ v => charged_both _ hok v tx hcut
 simp -implicitDefEqProofs (disch := omega) only [go_sem, e4, e5, e13, e39, e40, e41, m39]
 refine Jaa d3 ?_
 simp -implicitDefEqProofs (disch := omega) only [go_sem, e4, e5, e13, e39, e40, e41, m39]; clear d0 d1 d2 d3
 refine Jaf (λ m E σ => ∃ j : Nat, j + m = 2 /\ E 4 = I q /\ E 5 = Str tx /\ E 13 = B true /\ E 16 = .ptr 8388864 13 0 0 /\ E 39 = .own 8389232 13 0 2 /\ E 40 = I 2 /\ E 41 = I i /\ E 48 = .own 8389376 1 0 2 /\ E 49 = I 2 /\ E 50 = I j /\
  σ 8389232 = some ⟨41, 13, lt.map TPP⟩ /\ σ 8388864 = some ⟨41, 13, [TPP (gd lt i)]⟩ /\ σ 8389376 = some ⟨3, 1, lq.map I⟩) 2 ⟨0, by omega, ?_⟩ ?_
 . rw [<- hqm]; simp -implicitDefEqProofs (disch := omega) only [go_sem, e4, e5, e13, e39, e40, e41, m39]
   try ((repeat' apply And.intro) <;> rfl)
 clear e4 e5 e13 e39 e40 e41 m39 E σ
 rintro m' E σ ⟨j, hj, e4, e5, e13, e16, e39, e40, e41, e48, e49, e50, m39, m16, m48⟩
 simp -implicitDefEqProofs (disch := omega) only [go_sem, e4, e5, e13, e16, e39, e40, e41, e48, e49, e50, m39, m16, m48]
 refine Jab (λ hc2 => ?_) (λ hc2 => ?_)
 rotate_left
 . simp -implicitDefEqProofs (disch := omega) only [go_sem, e4, e5, e13, e39, e40, e41, m39]
   refine Jad (2 - (i + 1)) (by omega) ⟨i + 1, by omega, ?_⟩
   simp -implicitDefEqProofs (disch := omega) only [go_sem, e4, e5, e13, e39, e40, e41, m39]; try rfl
 have hjl : j < lq.length := by omega
 obtain ⟨C, e', hCl, c1, c2⟩ := p1 (gd lq j)
 have c3 := Jrf C C (by omega) (by omega)
 rw [decide_eq_true rfl] at c3; simp -implicitDefEqProofs (disch := omega) only [go_sem, e4, e5, e13, e16, e39, e40, e41, e48, e49, e50, m39, m16, m48]
 refine Jaa c1 ?_
 simp -implicitDefEqProofs (disch := omega) only [go_sem, e4, e5, e13, e16, e39, e40, e41, e48, e49, e50, m39, m16, m48]
 refine Jaa c2 ?_
 simp -implicitDefEqProofs (disch := omega) only [go_sem, e4, e5, e13, e16, e39, e40, e41, e48, e49, e50, m39, m16, m48, bne_self_eq_false]
 try (refine Jab (λ h => absurd rfl h) (λ h => ?_); simp -implicitDefEqProofs (disch := omega) only [go_sem, e4, e5, e13, e16, e39, e40, e41, e48, e49, e50, m39, m16, m48, bne_self_eq_false])
 refine Jaa c3 ?_
 simp -implicitDefEqProofs (disch := omega) only [go_sem, e4, e5, e13, e16, e39, e40, e41, e48, e49, e50, m39, m16, m48]
 refine Jad (2 - (j + 1)) (by omega) ⟨j + 1, by omega, ?_⟩
 simp -implicitDefEqProofs (disch := omega) only [go_sem, e4, e5, e13, e16, e39, e40, e41, e48, e49, e50, m39, m16, m48]; try rfl
end Go.Proofs.YtlecbpkidomjbaaGreatDoor.Au
set_option maxRecDepth 100000
namespace Go.Proofs.YtlecbpkidomjbaaGreatDoor
open Go.Proofs.Tryz
open Go.Vai Go Go.Proofs
set_option maxHeartbeats 4000000 in
theorem auditTripsMatchReference_lifted (os : Os) (a : os.Started) (H : Type) (enc : TypeId × Value -> H) :
 ReturnsInHanded {} Tryz.checked os 3 .any (λ w b => (Rows.auditTripsMatchReferenceSpec.pre enc prog Tryz.f3 [] false w b /\ laidMetH prog Jn6 w) /\ sizedMet enc prog Tryz.f3 (OpenSpec.ofChange Rows.auditTripsMatchReferenceSpec) false w b)
  (Rows.auditTripsMatchReferenceSpec.post enc prog Tryz.f3 false true false false) :=
 Jvl (C := Tryz.checked) (tb := 4) (ps := [ON, OI, OI, OI, OI, OS]) (X := λ w _ => laidMetH prog Jn6 w) (λ _ _ _ p h => h.of_heap p) own3 a (by kernel_rfl) func3
  (ChangeSpec.witness_shaped (enc := enc) (C := Tryz.checked) (os := os) (X := λ w _ => laidMetH prog Jn6 w) false (World.doorLaid prog 7 os) #[.agg #[.slice none 0 0, .slice none 0 0, .slice none 0 0, .slice none 0 0, .slice none 0 0, .slice none 0 0, .slice none 0 0], .int .i64 0, .int .i64 0, .int .i64 0, .int .i64 0, .string ByteArray.empty] 8 rfl (World.shaped_of_RefB (by kernel_rfl) (by kernel_rfl)) (by kernel_rfl) (by kernel_rfl) (by kernel_rfl) (Jsn os _))
  JsC (by kernel_rfl) (by kernel_rfl) (by kernel_rfl) rfl (JB2 λ _ _ _ _ _ _ => rfl)
  (λ w => ⟨JqJ, JhS (by kernel_rfl), JhS (by kernel_rfl), JhS (by kernel_rfl), JhS (by kernel_rfl), o_str, trivial⟩)
  (Jxv λ y z A B D E j k l m n o => by
   obtain ⟨q, c, rfl⟩ := j; obtain ⟨r, d, rfl⟩ := k; obtain ⟨s, e, rfl⟩ := l; obtain ⟨t, f, rfl⟩ := m; obtain ⟨u, g, rfl⟩ := n; obtain ⟨x, i, rfl⟩ := o
   exact Au.auditMatch_ev q r s t u x c d e f g i)
  (λ _ _ h => gok h)
theorem and2 {a b : Bool} (c : a = true) (d : b = true) : (a && b) = true := by rw [c, d]; rfl
set_option maxHeartbeats 16000000 in
theorem auditTripsMatchReference_closed : joinedFacts Tryz.checked.prog 3 Tryz.f3 Rows.auditTripsMatchReferenceSpec Rows.auditTripsMatchReferenceRow = true := by
 unfold joinedFacts
 with_reducible repeat' refine and2 ?_ ?_
 all_goals as_aux_lemma => kernel_rfl
theorem auditTripsMatchReference_row : Rows.AuditTripsMatchReferenceSaid :=
 OpenClaim.holds_of_wide 3 Tryz.f3 rfl rfl rfl rfl rfl rfl rfl ⟨rfl, rfl, rfl, rfl, rfl⟩ rfl rfl rfl rfl rfl (by kernel_rfl) func3 auditTripsMatchReference_closed
  (of_decide_eq_true (by kernel_rfl)) (by unfold Func.isWrapper; first | (rw [if_pos (by decide +kernel)]; kernel_rfl) | (rw [if_neg (by decide +kernel)]; exact ⟨rfl, rfl⟩))
  (λ c a H b _ => auditTripsMatchReference_lifted c a H b)
theorem auditTripsMatchReference_holds : Rows.AuditTripsMatchReferenceCardSaid :=
 Claim7.holds_tied_plain_at .later [] [.data] true (true, "fc0b41ce325a880f6124cc12a5a60d2cc18f91db4f72b25421ccb5b55b6447f3") false
  auditTripsMatchReference_row (fun _ h => by cases h) (by kernel_rfl) (fun _ h => by cases h) auditTripsMatchReference_row_tie rfl ⟨rfl, rfl⟩ (by kernel_rfl) rfl
  (fun f fn hf hfn => by
   obtain rfl : f = 3 := Option.some.inj ((show prog.funcNamed "dialtone/dialtonelaw40.AuditTripsMatchReference" = some 3 by kernel_rfl).symm.trans hf) |>.symm
   obtain rfl : fn = Tryz.f3 := (Option.some.inj (func3.symm.trans hfn)).symm
   exact ⟨by kernel_rfl, fun j t ht => by
    rw [Tryz.params3] at ht
    rcases j with _ | j
    . obtain rfl : t = 28 := by simpa using ht.symm
      exact (show prog.wantsStandIn 28 = false by kernel_rfl)
    rcases j with _ | j
    . obtain rfl : t = 3 := by simpa using ht.symm
      exact (show prog.wantsStandIn 3 = false by kernel_rfl)
    rcases j with _ | j
    . obtain rfl : t = 3 := by simpa using ht.symm
      exact (show prog.wantsStandIn 3 = false by kernel_rfl)
    rcases j with _ | j
    . obtain rfl : t = 3 := by simpa using ht.symm
      exact (show prog.wantsStandIn 3 = false by kernel_rfl)
    rcases j with _ | j
    . obtain rfl : t = 3 := by simpa using ht.symm
      exact (show prog.wantsStandIn 3 = false by kernel_rfl)
    rcases j with _ | j
    . obtain rfl : t = 9 := by simpa using ht.symm
      exact (show prog.wantsStandIn 9 = false by kernel_rfl)
    simp at ht⟩)
  (by kernel_rfl)
#print axioms auditTripsMatchReference_holds
end Go.Proofs.YtlecbpkidomjbaaGreatDoor

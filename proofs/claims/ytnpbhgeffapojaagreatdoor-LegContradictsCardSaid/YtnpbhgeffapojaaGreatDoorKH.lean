/- What is shown, who is first, what is billed -/
import Derived.Test.YtnpbhgeffapojaaGreatDoorKG
set_option linter.all false
set_option maxRecDepth 100000
namespace Go.Proofs.YtnpbhgeffapojaaGreatDoor
open Go.Proofs.Tryz
open Go.Vai Go Go.Proofs
def sigB (key : ByteArray) (r : Rg) (n : Int) : Bool := decide (key.size = 32) && (regB r && decide (0 <= n /\ n <= r.l.length))
theorem Jd8 {key : ByteArray} {r : Rg} {n : Int} : sigB key r n = true ↔ key.size = 32 /\ regB r = true /\ 0 <= n /\ n <= r.l.length := by
  unfold sigB; simp only [L00, decide_eq_true_iff]
theorem JdU {r : Rg} (h : regB r = true) {l : List ByteArray} (hl : ∀ s ∈ l, s ∈ r.l) : ∀ s ∈ l, s.size <= 1000000 := fun s hs => by
  have := (Jb2.1 h).2.2 s (hl s hs); omega
theorem Jga (key : ByteArray) (r : Rg) (n : Nat) : HDP (Jer key r n) = .agg [I r.c, I n, Str (Jar (r.l.take n)), Str (Jed key ⟨r.c, n, Jar (r.l.take n), default⟩)] := rfl
theorem JpZ : Str (default : ByteArray) = Str ⟨#[]⟩ := rfl
set_option maxHeartbeats 1000000 in
theorem JuF (key : ByteArray) (r : Rg) (n : Nat) (h : sigB key r n = true) : Ev prog 77 [Str key, RGP r, I n] (.tup [HDP (Jer key r n), I 0]) := by
  obtain ⟨h1, h2, h3, h4⟩ := Jd8.1 h
  have hr := Jb2.1 h2; have c1 := JiA key
  have c2 := Jh3 r (by omega)
  have c3 := Jcn n 0 r.l.length
  have htl : (r.l.take n).length = n := by rw [L02]; omega
  have c4 := Jk8 (r.l.take n) (by omega) (JdU h2 fun s hs => L0D hs)
  have c5 := JpL key ⟨r.c, n, Jar (r.l.take n), default⟩ (by omega) hr.1 (by simp only; omega) (by simp only; rw [Jcf]; omega)
  rw [decide_eq_true h1] at c1; rw [h2] at c2
  rw [decide_eq_true (by omega)] at c3
  rw [Jga]; simp only [HDP, JpZ] at c5; obtain ⟨c, l⟩ := r
  simp only at *
  generalize Jed key ⟨c, n, Jar (l.take n), default⟩ = S at *; generalize Jar (l.take n) = R at *
  have hnl : ((n : Int)).toNat = n := by omega
  refine EV func77 ?_
  simp -implicitDefEqProofs (disch := omega) only [go_sem, ntmps77]
  refine Jaa c1 ?_
  simp -implicitDefEqProofs (disch := omega) only [go_sem]
  refine Jaa c2 ?_
  simp -implicitDefEqProofs (disch := omega) only [go_sem]
  refine Jaa c3 ?_
  simp -implicitDefEqProofs (disch := omega) only [go_sem, hnl]
  refine Jaa c4 ?_
  simp -implicitDefEqProofs (disch := omega) only [go_sem]
  refine Jaa c5 ?_
  simp -implicitDefEqProofs (disch := omega) only [go_sem, false_and, results77]
theorem JrM (key : ByteArray) (r : Rg) (n : Int) (hl : r.l.length <= 9223372036854775807) (h : sigB key r n = false) : Ev prog 77 [Str key, RGP r, I n] (.tup [HDP default, I 180]) := by
  have c1 := JiA key; have c2 := Jh3 r hl; have c3 := Jcn n 0 r.l.length; unfold sigB at h; obtain ⟨c, l⟩ := r
  simp only at *
  generalize decide (key.size = 32) = b1 at *; generalize regB ⟨c, l⟩ = b2 at *; generalize decide (0 <= n /\ n <= l.length) = b3 at *
  have hd : HDP default = .agg [I 0, I 0, .v (.string ByteArray.empty), .v (.string ByteArray.empty)] := rfl
  rw [hd]
  refine EV func77 ?_
  simp -implicitDefEqProofs (disch := omega) only [go_sem, ntmps77]
  refine Jaa c1 ?_
  cases b1
  . simp -implicitDefEqProofs (disch := omega) only [go_sem, results77]
  simp -implicitDefEqProofs (disch := omega) only [go_sem]
  refine Jaa c2 ?_
  cases b2
  . simp -implicitDefEqProofs (disch := omega) only [go_sem, results77]
  cases b3
  . simp -implicitDefEqProofs (disch := omega) only [go_sem]
    refine Jaa c3 ?_
    simp -implicitDefEqProofs (disch := omega) only [go_sem, results77]
  . cases h
set_option maxHeartbeats 1000000 in
theorem JrL (key : ByteArray) (r : Rg) (n : Nat) (h : sigB key r n = true) : Ev prog 140 [Str key, RGP r, I n] (.tup [HDP (Jer key r n), I 0]) := by
  obtain ⟨h1, h2, h3, h4⟩ := Jd8.1 h
  have hr := Jb2.1 h2
  have c2 := Jhb r (by omega)
  have c3 := Jiy n 0 r.l.length
  have htl : (r.l.take n).length = n := by rw [L02]; omega
  have c4 := Je8 _ (r.l.take n) (L0a _) (by omega) (JdU h2 fun s hs => L0D hs)
  have c5 := JrJ key ⟨r.c, n, Jar (r.l.take n), default⟩ (by omega) hr.1 (by simp only; omega) (by simp only; rw [Jcf]; omega)
  rw [h2] at c2
  rw [decide_eq_true (by omega)] at c3
  rw [Jga]; simp only [HDP, JpZ] at c5; obtain ⟨c, l⟩ := r
  simp only at *
  generalize Jed key ⟨c, n, Jar (l.take n), default⟩ = S at *; generalize Jar (l.take n) = R at *
  have hnl : ((n : Int)).toNat = n := by omega
  have hkb : ((key.size : Int) != 32) = false := by simp; omega
  refine EV func140 ?_
  simp -implicitDefEqProofs (disch := omega) only [go_sem, ntmps140, hkb]
  refine Jaa c2 ?_
  simp -implicitDefEqProofs (disch := omega) only [go_sem]
  refine Jaa c3 ?_
  simp -implicitDefEqProofs (disch := omega) only [go_sem, hnl]
  refine Jaa c4 ?_
  simp -implicitDefEqProofs (disch := omega) only [go_sem]
  refine Jaa c5 ?_
  simp -implicitDefEqProofs (disch := omega) only [go_sem, false_and, results140]
theorem JpM (key : ByteArray) (r : Rg) (n : Int) (hl : r.l.length <= 9223372036854775807) (h : sigB key r n = false) : Ev prog 140 [Str key, RGP r, I n] (.tup [HDP default, I 180]) := by
  have c2 := Jhb r hl; have c3 := Jiy n 0 r.l.length; unfold sigB at h; obtain ⟨c, l⟩ := r
  simp only at *
  have hkb : ((key.size : Int) != 32) = !decide (key.size = 32) := by rw [L1i]; simp; omega
  generalize hb1 : decide (key.size = 32) = b1 at *; generalize regB ⟨c, l⟩ = b2 at *; generalize decide (0 <= n /\ n <= l.length) = b3 at *
  have hd : HDP default = .agg [I 0, I 0, .v (.string ByteArray.empty), .v (.string ByteArray.empty)] := rfl
  rw [hd]
  refine EV func140 ?_
  cases b1
  . simp -implicitDefEqProofs (disch := omega) only [go_sem, ntmps140, hkb, results140, Bool.not_false]
  simp -implicitDefEqProofs (disch := omega) only [go_sem, ntmps140, hkb, Bool.not_true]
  refine Jaa c2 ?_
  cases b2
  . simp -implicitDefEqProofs (disch := omega) only [go_sem, results140]
  cases b3
  . simp -implicitDefEqProofs (disch := omega) only [go_sem]
    refine Jaa c3 ?_
    simp -implicitDefEqProofs (disch := omega) only [go_sem, results140]
  . cases h
abbrev ITP (x : It) : AV := .agg [I x.i, Str x.e, SLs x.p]
abbrev ITS (l : List It) : AV := .sl 3 (l.map ITP)
abbrev PTP (p : Pt) : AV := .agg [I p.h.c, I p.h.n, Str p.h.r, Str p.h.s, ITS p.l]
abbrev zP : AV := .agg [I 0, I 0, .v (.string ByteArray.empty), .v (.string ByteArray.empty), .v (.slice none 0 0)]
abbrev shV (o : Option Pt) : AV := match o with
  | some p => .tup [PTP p, I 0]
  | none => .tup [zP, I 180]
section
variable (p : Nat -> Bool) (l : List It)
@[go_sem] theorem JvS : AV.namesL p (l.map ITP) = false := Jal p l ITP fun _ => rfl
@[go_sem] theorem Jwx : JbS 3 (l.map ITP) = true := JaI 3 l ITP fun _ => ⟨rfl, rfl⟩
end
theorem Jj5 (key : ByteArray) (r : Rg) (n : Int) (l : List Int) : Jc1 key r n l = if sigB key r n = true then (if ascN n.toNat none l = true then some ⟨Jer key r n.toNat, l.map fun i => Ja7 r n.toNat i.toNat⟩ else none) else none := by
  unfold Jc1
  by_cases h : sigB key r n = true
  . rw [if_pos h]
    obtain ⟨h1, h2, h3⟩ := Jd8.1 h
    by_cases ha : ascN n.toNat none l = true
    . rw [if_pos ha, if_pos ⟨h1, h2, h3, ha⟩]
    . rw [if_neg ha, if_neg (fun hh => ha hh.2.2.2)]
  . rw [if_neg h, if_neg (fun hh => h (Jd8.2 ⟨hh.1, hh.2.1, hh.2.2.1⟩))]
def prvO (l : List Int) (i : Nat) : Option Int := if i = 0 then none else some (gd l (i - 1))
theorem Jja (n : Nat) (l : List Int) (i : Nat) (h : i < l.length) : ascN n (prvO l i) (l.drop i) = (decide ((0 <= gd l i /\ gd l i < n) /\ (0 < i -> gd l (i - 1) < gd l i)) && ascN n (prvO l (i + 1)) (l.drop (i + 1))) := by
  rw [JaU l i h, ascN]
  have e1 : prvO l (i + 1) = some (gd l i) := by unfold prvO; rw [if_neg (by omega), L0Z]
  rw [e1]
  congr 1
  rw [decide_eq_decide]
  refine and_congr Iff.rfl ?_
  unfold prvO
  by_cases h0 : i = 0
  . subst h0; simp
  . rw [if_neg h0]
    exact ⟨fun hh _ => hh _ rfl, fun hh q hq => by cases hq; exact hh (by omega)⟩
def itV (r : Rg) (n : Nat) (l : List Int) (i : Nat) : List AV := (l.take i).map fun j => ITP (Ja7 r n j.toNat)
theorem JoS (r : Rg) (n : Nat) (l : List Int) (i : Nat) (h : i <= l.length) : (itV r n l i).length = i := by
  unfold itV; rw [L05, L02]; omega
theorem JjC (r : Rg) (n : Nat) (l : List Int) (p : Nat -> Bool) (i : Nat) : AV.namesL p (itV r n l i) = false := Jal p (l.take i) (fun j => ITP (Ja7 r n j.toNat)) fun _ => rfl
theorem JlR (r : Rg) (n : Nat) (l : List Int) : itV r n l 0 = [] := rfl
theorem JuM {T : Type} [Inhabited T] (l : List T) (i : Nat) (h : i < l.length) : l.take (i + 1) = l.take i ++ [gd l i] := by rw [L1b, Jbj l i h]; rfl
theorem JlQ (r : Rg) (n : Nat) (l : List Int) (i : Nat) (h : i < l.length) : itV r n l (i + 1) = itV r n l i ++ [.agg [I (gd l i).toNat, Str (gd r.l (gd l i).toNat), SLs (Jbb (r.l.take n) (gd l i).toNat).reverse]] := by
  unfold itV; rw [JuM l i h, L14]; rfl
theorem JoR (r : Rg) (n : Nat) (l : List Int) : itV r n l l.length = (l.map fun j => Ja7 r n j.toNat).map ITP := by
  unfold itV; rw [L0d, L19]; rfl
def shI (c : Int) (L : List ByteArray) (n : Nat) (R S : ByteArray) (l : List Int) (i : Nat) (P : List AV) (E : Env) (σ : Jac) : Prop :=
  E 2 = I n /\ E 3 = SL l /\ E 5 = .ptr 69206096 2 0 0 /\ E 8 = .ptr 69206144 5 0 0 /\ E 12 = .ptr 69206208 5 0 0 /\ E 30 = SL l /\ E 31 = I l.length /\ E 32 = I i /\
    σ 69206096 = some ⟨90, 2, [.agg [I c, SLs L]]⟩ /\ σ 69206144 = some ⟨49, 5, [zP]⟩ /\ σ 69206208 = some ⟨49, 5, [.agg [I c, I n, Str R, Str S, .own 69206209 3 0 i]]⟩ /\ σ 69206209 = some ⟨134, 3, P⟩
set_option maxHeartbeats 2000000 in
theorem JfJ (key : ByteArray) (r : Rg) (n : Int) (l : List Int) (hrl : r.l.length <= 9223372036854775807) (hl : l.length <= 9223372036854775807) (hR : ∀ x ∈ l, R64 x) : Ev prog 32 [Str key, RGP r, I n, SL l] (shV (Jc1 key r n l)) := by
  rw [Jj5]
  cases hs : sigB key r n with
  | false =>
    have c1 := JrM key r n hrl hs
    have hd : HDP default = .agg [I 0, I 0, .v (.string ByteArray.empty), .v (.string ByteArray.empty)] := rfl
    rw [hd] at c1
    rw [if_neg (by decide)]
    refine EW [5, 13] func32 ?_
    simp -implicitDefEqProofs (disch := omega) only [go_sem, ntmps32]
    refine Jaa c1 ?_
    simp -implicitDefEqProofs (disch := omega) only [go_sem, results32]
  | true =>
  rw [if_pos rfl]
  obtain ⟨h1, h2, h3, h4⟩ := Jd8.1 hs
  obtain ⟨m, rfl⟩ := L1W h3
  have hn : (m : Int).toNat = m := by omega
  rw [hn]; have c1 := JuF key r m hs; have hr := Jb2.1 h2
  have htl : (r.l.take m).length = m := by rw [L02]; omega
  have c2 := fun (J : Nat) (hJ : J < m) => Jry (r.l.take m) J (by omega) (JdU h2 fun s hs => L0D hs) (by omega)
  have c3 := fun (J : Int) (hJ : ¬ (0 <= J /\ J < m)) => Jpv (r.l.take m) J (by omega) (by omega)
  have hst := Jja m l; have hvl := JoS r m l; have hvn := JjC r m l; have hv0 := JlR r m l; have hvs := JlQ r m l; have hva := JoR r m l
  obtain ⟨z, hz⟩ : ∃ z, ascN m none l = z := ⟨_, rfl⟩
  rw [hz]
  have hz0 : z = ascN m (prvO l 0) (l.drop 0) := hz.symm
  have hfin : (if z = true then some (⟨Jer key r m, l.map fun i => Ja7 r m i.toNat⟩ : Pt) else none) = if z = true then some (⟨⟨r.c, m, Jar (r.l.take m), Jed key ⟨r.c, m, Jar (r.l.take m), default⟩⟩, l.map fun i => Ja7 r m i.toNat⟩ : Pt) else none := rfl
  rw [hfin]; rw [Jga] at c1
  generalize hF : (l.map fun i => Ja7 r m i.toNat) = F at *
  generalize Jed key ⟨r.c, m, Jar (r.l.take m), default⟩ = S at *; generalize Jar (r.l.take m) = R at *; generalize itV r m l = V at *; obtain ⟨c, L⟩ := r
  simp only at *
  generalize Jbb (L.take m) = Q at *; clear hfin hF hz h2 h1 hs
  refine EW [5, 13] func32 ?_
  simp -implicitDefEqProofs (disch := omega) only [go_sem, ntmps32]
  refine Jaa c1 ?_
  simp -implicitDefEqProofs (disch := omega) only [go_sem]
  refine Jbp 69206208 69206209 0 4 134 3 (k := ⟨49, 5, [.agg [I c, I m, Str R, Str S, .v (.slice none 0 0)]]⟩) (el := .agg [I c, I m, Str R, Str S, .v (.slice none 0 0)]) (by simp -implicitDefEqProofs (disch := omega) only [go_sem]) (by decide) rfl rfl (by simp) (by simp -implicitDefEqProofs (disch := omega) only [go_sem]) rfl ?_
  refine Je6 Plain.mono ?_
  simp -implicitDefEqProofs (disch := omega) only [go_sem]
  refine Jag (fun k E σ => ∃ i : Nat, i + k = l.length /\ i <= m /\ (0 < i -> (i : Int) <= gd l (i - 1) + 1 /\ gd l (i - 1) < m) /\ z = ascN m (prvO l i) (l.drop i) /\ shI c L m R S l i (V i) E σ) l.length ⟨0, by omega, by omega, fun h => absurd h (by omega), hz0, ?_⟩ ?_
  . simp -implicitDefEqProofs (disch := omega) only [go_sem, shI, hv0, false_and]; try rfl
  rintro k E σ ⟨i, hk, him, hpr, hx, e2, e3, e5, e8, e12, e30, e31, e32, m5, m8, m12, mP⟩
  simp -implicitDefEqProofs (disch := omega) only [go_sem, e2, e3, e5, e8, e12, e30, e31, e32, m5, m8, m12, mP]
  refine Jab (fun hc => ?_) (fun hc => ?_)
  . have hi : i < l.length := by omega
    have hx1 := hst i hi; rw [hx1] at hx; have hxr := hR _ (Jas l i hi); have hvi := hvs i hi
    have hvl1 := hvl i (by omega)
    simp -implicitDefEqProofs (disch := omega) only [go_sem, e2, e3, e5, e8, e12, e30, e31, e32, m5, m8, m12, mP, hn]
    by_cases hb : 0 <= gd l i /\ gd l i < m
    rotate_left
    . rw [decide_eq_false (fun h => hb h.1), L0c] at hx
      subst hx
      refine Jaa (c3 _ hb) ?_
      simp -implicitDefEqProofs (disch := omega) only [go_sem, e2, e3, e5, e8, e12, e30, e31, e32, m5, m8, m12, mP, results32]
    obtain ⟨J, hJ⟩ := L1W hb.1
    have d1 := c2 J (by omega)
    rw [hJ] at hx hvi hb; rw [L18] at hvi; rw [hJ]
    refine Jaa d1 ?_
    simp -implicitDefEqProofs (disch := omega) only [go_sem, e2, e3, e5, e8, e12, e30, e31, e32, m5, m8, m12, mP]
    refine Jab (fun h2 => ?_) (fun h2 => ?_)
    . have hj : ((i : Int) - 1).toNat = i - 1 := by omega
      simp -implicitDefEqProofs (disch := omega) only [go_sem, e2, e3, e5, e8, e12, e30, e31, e32, m5, m8, m12, mP, hj]
      refine Jab (fun h5 => ?_) (fun h5 => ?_)
      . rw [decide_eq_false (fun h => by have := h.2 (by omega); omega), L0c] at hx
        subst hx; simp -implicitDefEqProofs (disch := omega) only [go_sem, e2, e3, e5, e8, e12, e30, e31, e32, m5, m8, m12, mP, results32]
      . have hx : z = ascN m (prvO l (i + 1)) (l.drop (i + 1)) := by rw [hx, decide_eq_true (by rw [<- hJ]; constructor <;> omega), L0k]
        have hqt : (V i).take i = V i := L09 (by omega)
        simp -implicitDefEqProofs (disch := omega) only [go_sem, e2, e3, e5, e8, e12, e30, e31, e32, m5, m8, m12, mP, hvl1, hqt, hvn, false_and]
        have hnx : 0 < i + 1 -> ((i + 1 : Nat) : Int) <= gd l (i + 1 - 1) + 1 /\ gd l (i + 1 - 1) < m := fun _ => by
          rw [L0Z, hJ]
          by_cases h0 : 0 < i
          . have := hpr h0; omega
          . omega
        have him2 : i + 1 <= m := by have := hnx (by omega); rw [L0Z, hJ] at this; omega
        have hdec : l.length - (i + 1) < k /\ i + 1 + (l.length - (i + 1)) = l.length := by omega
        refine Jae (l.length - (i + 1)) hdec.1 ⟨i + 1, hdec.2, him2, hnx, hx, ?_⟩
        have hvn1 := fun p => hvn p (i + 1)
        rw [hvi] at hvn1; rw [hvi]; simp -implicitDefEqProofs (disch := omega) only [go_sem, shI, e2, e3, e5, e8, e12, e30, e31, e32, m5, m8, m12, mP, hvl1, hqt, hvn, hvn1, false_and]; try rfl
    . have hx : z = ascN m (prvO l (i + 1)) (l.drop (i + 1)) := by rw [hx, decide_eq_true (by rw [<- hJ]; constructor <;> omega), L0k]
      have hqt : (V i).take i = V i := L09 (by omega)
      simp -implicitDefEqProofs (disch := omega) only [go_sem, e2, e3, e5, e8, e12, e30, e31, e32, m5, m8, m12, mP, hvl1, hqt, hvn, false_and]
      have hnx : 0 < i + 1 -> ((i + 1 : Nat) : Int) <= gd l (i + 1 - 1) + 1 /\ gd l (i + 1 - 1) < m := fun _ => by
        rw [L0Z, hJ]
        by_cases h0 : 0 < i
        . have := hpr h0; omega
        . omega
      have him2 : i + 1 <= m := by have := hnx (by omega); rw [L0Z, hJ] at this; omega
      have hdec : l.length - (i + 1) < k /\ i + 1 + (l.length - (i + 1)) = l.length := by omega
      refine Jae (l.length - (i + 1)) hdec.1 ⟨i + 1, hdec.2, him2, hnx, hx, ?_⟩
      have hvn1 := fun p => hvn p (i + 1)
      rw [hvi] at hvn1; rw [hvi]; simp -implicitDefEqProofs (disch := omega) only [go_sem, shI, e2, e3, e5, e8, e12, e30, e31, e32, m5, m8, m12, mP, hvl1, hqt, hvn, hvn1, false_and]; try rfl
  . obtain rfl : i = l.length := by omega
    rw [L0H] at hx
    have hx : z = true := hx
    subst hx; rw [hva] at mP
    have hFl : F.length = l.length := by have := hvl l.length (L0a _); rw [hva, L05] at this; exact this
    have hqt : F.take l.length = F := L09 (by omega)
    simp -implicitDefEqProofs (disch := omega) only [go_sem, e2, e3, e5, e8, e12, e30, e31, e32, m5, m8, m12, mP]
    refine JaK Plain.mono [69206208, 69206209] ?_
    simp -implicitDefEqProofs (disch := omega) only [go_sem, e2, e3, e5, e8, e12, e30, e31, e32, m5, m8, m12, mP, hqt, L05, hFl]; simp -implicitDefEqProofs (disch := omega) only [go_sem, e2, e3, e5, e8, e12, e30, e31, e32, m5, m8, m12, mP, hqt, L05, hFl, results32]
theorem Jok {P : Program} {f : FuncId} {args : List AV} {e sz : Nat} {es : List AV} {x : Value} (h : Ev P f args (.tup [.new e sz es, .v x])) : Ev P f args (.tup [.sl sz es, .v x]) := by
  intro args' r0 he
  obtain ⟨rfl, rfl⟩ := he
  obtain ⟨h1, h2⟩ := h args' _ ⟨rfl, rfl⟩
  refine ⟨h1, fun w Im vs hl hg ha => ?_⟩
  refine (h2 w Im vs hl hg ha).mono fun ex w' hq => ?_
  obtain ⟨y, rfl, hx, Im', i1, i2, ys, obs, rfl, hRL, hF⟩ := hq
  refine ⟨_, rfl, hx, ?_⟩
  match ys, obs, hRL with
  | [y1, y2], [o1, o2], hRL =>
    obtain ⟨r1, ⟨rfl, r2⟩, _⟩ := hRL
    have fr : Jdv w.heap.size Im' [none, none] := ⟨fun b hb => by simp at hb, by simp⟩
    rcases r1 with ⟨rfl, rfl, rfl⟩ | ⟨b, cap, hz, rfl, rfl, hle, hcap, hcur, hcont⟩
    . exact ⟨Im', i1, i2, _, [none, none], rfl, ⟨⟨rfl, .slnil ..⟩, ⟨rfl, r2⟩, trivial⟩, fr⟩
    . obtain ⟨cur, hc, hes, hsz, hcc⟩ := hcont
      have hb := (hF.1 b (by simp)).1
      have hb2 : b < w'.heap.size := by
        obtain ⟨fr, hc, _⟩ := hc
        exact (L0j.1 hc).1
      refine ⟨fun a => Im' a \/ a = b, fun a ha => .inl (i1 a ha), fun a ha => ?_, _, [none, none], rfl, ⟨⟨rfl, ?_⟩, ⟨rfl, ?_⟩, trivial⟩, ⟨fun b hb => by simp at hb, by simp⟩⟩
      . rcases ha with ha | rfl
        . exact i2 a ha
        . exact .inr ⟨hb, hb2⟩
      . have key : ∀ (i : Nat) (a : AV) (j : Nat) (c : AV), es[i]? = some a -> a.cells[j]? = some c -> ∃ v, cur[i * sz + j]? = some v /\ v.oneCell' = true /\ IRep w' (fun a => Im' a \/ a = b) c v := fun i a j c h1 h2 => by
          obtain ⟨v, v1, v2, v3⟩ := hcc i a j c h1 h2
          exact ⟨v, v1, v2, v3.mono (fun _ h => .inl h) (fun _ _ => rfl)⟩
        refine .sl sz es b 0 cap (fun i j => (cur[i * sz + j]?).getD undef) (.inr rfl) hle hes (fun i j hi hj => ?_) (fun i a j c h1 h2 => ?_)
        . obtain ⟨a, h1⟩ : ∃ a, es[i]? = some a := ⟨_, L07 hi⟩
          have hal := hes a (L01 h1)
          obtain ⟨c, h2⟩ : ∃ c, a.cells[j]? = some c := ⟨_, L07 (by omega)⟩
          obtain ⟨v, v1, v2, v3⟩ := key i a j c h1 h2
          rw [Jbm hc, L0q, v1]
          exact ⟨rfl, v2⟩
        . obtain ⟨v, v1, v2, v3⟩ := key i a j c h1 h2
          simp only [v1, Option.getD_some]; exact v3
      . exact r2.mono (fun _ h => .inl h) (fun _ _ => rfl)
  | [], _, hRL => exact hRL.elim
  | [_], [], hRL => exact hRL.elim
  | [_], [_], hRL => exact hRL.2.elim
  | [_], _ :: _ :: _, hRL => exact hRL.2.elim
  | _ :: _ :: _, [], hRL => exact hRL.elim
  | _ :: _ :: _, [_], hRL => exact hRL.2.elim
  | _ :: _ :: _ :: _, _ :: _ :: _, hRL => exact hRL.2.2.elim
  | [_, _], _ :: _ :: _ :: _, hRL => exact hRL.2.2.elim
theorem JdB {T : Type} (g : T -> AV) (h : ∀ x, (g x).dn = false) : ∀ l : List T, AV.dnL (l.map g) = false
  | [] => by simp only [L0C, AV.dnL]
  | x :: l => by simp only [L0n, AV.dnL, h x, JdB g h l, L11]
theorem Jsw (l : List ByteArray) (n : Int) : (AV.tup [.sl 1 (l.map fun s => .v (.string s)), .v (.int .i64 n)]).dn = false := by
  simp only [AV.dn, AV.dnL, JdB _ (fun x => AV.dn.eq_2 _) l, L11]
def shR (c : Int) (L : List ByteArray) (n : Nat) (R S : ByteArray) (l : List Int) (i : Nat) (P : List AV) (E : Env) (σ : Jac) : Prop :=
  E 2 = I n /\ E 3 = SL l /\ E 5 = .ptr 192938064 2 0 0 /\ E 8 = .ptr 192938112 5 0 0 /\ E 12 = .ptr 192938176 5 0 0 /\ E 13 = I i /\
    σ 192938064 = some ⟨90, 2, [.agg [I c, SLs L]]⟩ /\ σ 192938112 = some ⟨49, 5, [zP]⟩ /\ σ 192938176 = some ⟨49, 5, [.agg [I c, I n, Str R, Str S, .own 192938177 3 0 i]]⟩ /\ σ 192938177 = some ⟨134, 3, P⟩
set_option maxHeartbeats 2000000 in
theorem JrK (key : ByteArray) (r : Rg) (n : Int) (l : List Int) (hrl : r.l.length <= 9223372036854775807) (hl : l.length <= 9223372036854775807) (hR : ∀ x ∈ l, R64 x) : Ev prog 91 [Str key, RGP r, I n, SL l] (shV (Jc1 key r n l)) := by
  rw [Jj5]
  cases hs : sigB key r n with
  | false =>
    have c1 := JpM key r n hrl hs
    have hd : HDP default = .agg [I 0, I 0, .v (.string ByteArray.empty), .v (.string ByteArray.empty)] := rfl
    rw [hd] at c1
    rw [if_neg (by decide)]
    refine EW [5, 12] func91 ?_
    simp -implicitDefEqProofs (disch := omega) only [go_sem, ntmps91]
    refine Jaa c1 ?_
    simp -implicitDefEqProofs (disch := omega) only [go_sem, results91]
  | true =>
  rw [if_pos rfl]
  obtain ⟨h1, h2, h3, h4⟩ := Jd8.1 hs
  obtain ⟨m, rfl⟩ := L1W h3
  have hn : (m : Int).toNat = m := by omega
  rw [hn]; have c1 := JrL key r m hs; have hr := Jb2.1 h2
  have htl : (r.l.take m).length = m := by rw [L02]; omega
  have c2 := fun (J : Nat) (hJ : J < m) => Jok (JeA m (r.l.take m) J (by omega) (by omega) (by omega) (JdU h2 fun s hs => L0D hs))
  have c3 := fun (J : Int) => Jiy J 0 (m - 1)
  have hst := Jja m l; have hvl := JoS r m l; have hvn := JjC r m l; have hv0 := JlR r m l; have hvs := JlQ r m l; have hva := JoR r m l
  obtain ⟨z, hz⟩ : ∃ z, ascN m none l = z := ⟨_, rfl⟩
  rw [hz]
  have hz0 : z = ascN m (prvO l 0) (l.drop 0) := hz.symm
  have hfin : (if z = true then some (⟨Jer key r m, l.map fun i => Ja7 r m i.toNat⟩ : Pt) else none) = if z = true then some (⟨⟨r.c, m, Jar (r.l.take m), Jed key ⟨r.c, m, Jar (r.l.take m), default⟩⟩, l.map fun i => Ja7 r m i.toNat⟩ : Pt) else none := rfl
  rw [hfin]; rw [Jga] at c1
  generalize hF : (l.map fun i => Ja7 r m i.toNat) = F at *
  generalize Jed key ⟨r.c, m, Jar (r.l.take m), default⟩ = S at *; generalize Jar (r.l.take m) = R at *; generalize itV r m l = V at *; obtain ⟨c, L⟩ := r
  simp only at *
  generalize Jbb (L.take m) = Q at *; clear hfin hF hz h2 h1 hs
  refine EW [5, 12] func91 ?_
  simp -implicitDefEqProofs (disch := omega) only [go_sem, ntmps91]
  refine Jaa c1 ?_
  simp -implicitDefEqProofs (disch := omega) only [go_sem]
  refine Jbp 192938176 192938177 0 4 134 3 (k := ⟨49, 5, [.agg [I c, I m, Str R, Str S, .v (.slice none 0 0)]]⟩) (el := .agg [I c, I m, Str R, Str S, .v (.slice none 0 0)]) (by simp -implicitDefEqProofs (disch := omega) only [go_sem]) (by decide) rfl rfl (by simp) (by simp -implicitDefEqProofs (disch := omega) only [go_sem]) rfl ?_
  refine Je6 Plain.mono ?_
  simp -implicitDefEqProofs (disch := omega) only [go_sem]
  refine Jag (fun k E σ => ∃ i : Nat, i + k = l.length /\ i <= m /\ (0 < i -> (i : Int) <= gd l (i - 1) + 1 /\ gd l (i - 1) < m) /\ z = ascN m (prvO l i) (l.drop i) /\ shR c L m R S l i (V i) E σ) l.length ⟨0, by omega, by omega, fun h => absurd h (by omega), hz0, ?_⟩ ?_
  . simp -implicitDefEqProofs (disch := omega) only [go_sem, shR, hv0, false_and]; try rfl
  rintro k E σ ⟨i, hk, him, hpr, hx, e2, e3, e5, e8, e12, e13, m5, m8, m12, mP⟩
  simp -implicitDefEqProofs (disch := omega) only [go_sem, e2, e3, e5, e8, e12, e13, m5, m8, m12, mP]
  refine Jab (fun hc => ?_) (fun hc => ?_)
  . have hi : i < l.length := by omega
    have hx1 := hst i hi; rw [hx1] at hx; have hxr := hR _ (Jas l i hi); have hvi := hvs i hi
    have hvl1 := hvl i (by omega)
    simp -implicitDefEqProofs (disch := omega) only [go_sem, e2, e3, e5, e8, e12, e13, m5, m8, m12, mP]
    refine Jaa (c3 (gd l i)) ?_
    by_cases hb : 0 <= gd l i /\ gd l i < m
    rotate_left
    . rw [decide_eq_false (fun h => hb h.1), L0c] at hx
      rw [decide_eq_false (by omega)]
      subst hx; simp -implicitDefEqProofs (disch := omega) only [go_sem, e2, e3, e5, e8, e12, e13, m5, m8, m12, mP, results91]
    rw [decide_eq_true (by omega)]
    obtain ⟨J, hJ⟩ := L1W hb.1
    have d1 := c2 J (by omega)
    rw [hJ] at hx hvi hb; rw [L18] at hvi; simp -implicitDefEqProofs (disch := omega) only [go_sem, hJ, e2, e3, e5, e8, e12, e13, m5, m8, m12, mP, hJ]
    refine Jab (fun h2 => ?_) (fun h2 => ?_)
    . have hj : ((i : Int) - 1).toNat = i - 1 := by omega
      simp -implicitDefEqProofs (disch := omega) only [go_sem, hJ, e2, e3, e5, e8, e12, e13, m5, m8, m12, mP, hj, hJ]
      refine Jab (fun h5 => ?_) (fun h5 => ?_)
      . rw [decide_eq_false (fun h => by have := h.2 (by omega); omega), L0c] at hx
        subst hx; simp -implicitDefEqProofs (disch := omega) only [go_sem, hJ, e2, e3, e5, e8, e12, e13, m5, m8, m12, mP, results91]
      . have hx : z = ascN m (prvO l (i + 1)) (l.drop (i + 1)) := by rw [hx, decide_eq_true (by rw [<- hJ]; constructor <;> omega), L0k]
        have hqt : (V i).take i = V i := L09 (by omega)
        have hql : (Q J).reverse.take (Q J).reverse.length = (Q J).reverse := L0d
        simp -implicitDefEqProofs (disch := omega) only [go_sem, hJ, e2, e3, e5, e8, e12, e13, m5, m8, m12, mP, hn]
        refine Jaa d1 ?_ (h4 := .inr (Jsw _ _))
        simp -implicitDefEqProofs (disch := omega) only [go_sem, hJ, e2, e3, e5, e8, e12, e13, m5, m8, m12, mP, hvl1, hqt, hvn, false_and]
        have hnx : 0 < i + 1 -> ((i + 1 : Nat) : Int) <= gd l (i + 1 - 1) + 1 /\ gd l (i + 1 - 1) < m := fun _ => by
          rw [L0Z, hJ]
          by_cases h0 : 0 < i
          . have := hpr h0; omega
          . omega
        have him2 : i + 1 <= m := by have := hnx (by omega); rw [L0Z, hJ] at this; omega
        have hdec : l.length - (i + 1) < k /\ i + 1 + (l.length - (i + 1)) = l.length := by omega
        refine Jae (l.length - (i + 1)) hdec.1 ⟨i + 1, hdec.2, him2, hnx, hx, ?_⟩
        have hvn1 := fun p => hvn p (i + 1)
        rw [hvi] at hvn1; rw [hvi]; simp -implicitDefEqProofs (disch := omega) only [go_sem, shR, e2, e3, e5, e8, e12, e13, m5, m8, m12, mP, hvl1, hqt, hvn, hvn1, false_and]; try rfl
    . have hx : z = ascN m (prvO l (i + 1)) (l.drop (i + 1)) := by rw [hx, decide_eq_true (by rw [<- hJ]; constructor <;> omega), L0k]
      have hqt : (V i).take i = V i := L09 (by omega)
      have hql : (Q J).reverse.take (Q J).reverse.length = (Q J).reverse := L0d
      simp -implicitDefEqProofs (disch := omega) only [go_sem, hJ, e2, e3, e5, e8, e12, e13, m5, m8, m12, mP, hn]
      refine Jaa d1 ?_ (h4 := .inr (Jsw _ _))
      simp -implicitDefEqProofs (disch := omega) only [go_sem, hJ, e2, e3, e5, e8, e12, e13, m5, m8, m12, mP, hvl1, hqt, hvn, false_and]
      have hnx : 0 < i + 1 -> ((i + 1 : Nat) : Int) <= gd l (i + 1 - 1) + 1 /\ gd l (i + 1 - 1) < m := fun _ => by
        rw [L0Z, hJ]
        by_cases h0 : 0 < i
        . have := hpr h0; omega
        . omega
      have him2 : i + 1 <= m := by have := hnx (by omega); rw [L0Z, hJ] at this; omega
      have hdec : l.length - (i + 1) < k /\ i + 1 + (l.length - (i + 1)) = l.length := by omega
      refine Jae (l.length - (i + 1)) hdec.1 ⟨i + 1, hdec.2, him2, hnx, hx, ?_⟩
      have hvn1 := fun p => hvn p (i + 1)
      rw [hvi] at hvn1; rw [hvi]; simp -implicitDefEqProofs (disch := omega) only [go_sem, shR, e2, e3, e5, e8, e12, e13, m5, m8, m12, mP, hvl1, hqt, hvn, hvn1, false_and]; try rfl
  . obtain rfl : i = l.length := by omega
    rw [L0H] at hx
    have hx : z = true := hx
    subst hx; rw [hva] at mP
    have hFl : F.length = l.length := by have := hvl l.length (L0a _); rw [hva, L05] at this; exact this
    have hqt : F.take l.length = F := L09 (by omega)
    simp -implicitDefEqProofs (disch := omega) only [go_sem, e2, e3, e5, e8, e12, e13, m5, m8, m12, mP]
    refine JaK Plain.mono [192938176, 192938177] ?_
    simp -implicitDefEqProofs (disch := omega) only [go_sem, e2, e3, e5, e8, e12, e13, m5, m8, m12, mP, hqt, L05, hFl]; simp -implicitDefEqProofs (disch := omega) only [go_sem, e2, e3, e5, e8, e12, e13, m5, m8, m12, mP, hqt, L05, hFl, results91]
def PtOK (p : Pt) : Prop := p.h.r.size <= 9223372036854775807 /\ p.l.length <= 9223372036854775807 /\ ∀ x ∈ p.l, x.e.size <= 9223372036854775807 /\ x.p.length <= 1000000
def prvI (l : List It) (i : Nat) : Option Int := if i = 0 then none else some (gd l (i - 1)).i
theorem JoT (h : Hd) (l : List It) (i : Nat) (hi : i < l.length) : itsB h (prvI l i) (l.drop i) = ((decide (i = 0 \/ (0 < i /\ (gd l (i - 1)).i < (gd l i).i)) && (decide ((gd l i).e.size <= 1000) && verB h.r h.n (gd l i).i (gd l i).e (gd l i).p)) && itsB h (prvI l (i + 1)) (l.drop (i + 1))) := by
  rw [JaU l i hi, itsB, itB]
  have e1 : prvI l (i + 1) = some (gd l i).i := by unfold prvI; rw [if_neg (by omega), L0Z]
  rw [e1]
  congr 2
  rw [decide_eq_decide]; unfold prvI
  by_cases h0 : i = 0
  . subst h0; simp
  . rw [if_neg h0]
    exact ⟨fun hh => .inr ⟨by omega, hh _ rfl⟩, fun hh q hq => by cases hq; rcases hh with hh | hh; exact absurd hh h0; exact hh.2⟩
set_option maxHeartbeats 2000000 in
theorem JqH (key : ByteArray) (p : Pt) (hp : PtOK p) : Ev prog 85 [Str key, PTP p] (B (Jb4 key p)) := by
  have c1 := JxA key p.h hp.1
  have hch : Jb4 key p = (genB key p.h && itsB p.h none p.l) := rfl
  have hng : genB key p.h = true -> 0 <= p.h.n /\ p.h.n <= 60 := fun h => (JlJ.1 h).2.2.1
  obtain ⟨z, hz⟩ : ∃ z, Jb4 key p = z := ⟨_, rfl⟩
  rw [hz] at hch ⊢; generalize genB key p.h = g at *; have hst := JoT p.h p.l
  have hz0 : itsB p.h none p.l = itsB p.h (prvI p.l 0) (p.l.drop 0) := rfl
  rw [hz0] at hch
  obtain ⟨⟨c, n, r, s⟩, l⟩ := p
  obtain ⟨hp1, hp2, hp3⟩ := hp
  simp only at *
  have c4 := fun (x : It) (hx : x ∈ l) (hn : n <= 60) (hs : x.e.size <= 1000) => JyT r n x.i x.e x.p hn (by omega) (hp3 x hx).2
  refine EV func85 ?_
  simp -implicitDefEqProofs (disch := omega) only [go_sem, ntmps85]
  refine Jaa c1 ?_
  cases g with
  | false =>
    subst hch; simp -implicitDefEqProofs (disch := omega) only [go_sem, L0c, results85]
  | true =>
  rw [L0k] at hch; have hn := hng rfl; clear hng hz0 c1 hz; simp -implicitDefEqProofs (disch := omega) only [go_sem]
  refine Jag (fun k E σ => ∃ i : Nat, i + k = l.length /\ z = itsB ⟨c, n, r, s⟩ (prvI l i) (l.drop i) /\ E 3 = .ptr 180355120 5 0 0 /\ E 14 = ITS l /\ E 15 = I l.length /\ E 16 = I i /\ σ 180355120 = some ⟨49, 5, [.agg [I c, I n, Str r, Str s, ITS l]]⟩) l.length ⟨0, by omega, hch, ?_⟩ ?_
  . simp -implicitDefEqProofs (disch := omega) only [go_sem]; try rfl
  rintro k E σ ⟨i, hk, hx, e3, e14, e15, e16, m3⟩
  simp -implicitDefEqProofs (disch := omega) only [go_sem, e3, e14, e15, e16, m3]
  refine Jab (fun hc => ?_) (fun hc => ?_)
  . have hi : i < l.length := by omega
    rw [hst i hi] at hx; have d4 := c4 _ (Jas l i hi) hn.2; have hpi := hp3 _ (Jas l i hi)
    have hdec : l.length - (i + 1) < k /\ i + 1 + (l.length - (i + 1)) = l.length := by omega
    try simp only at hx
    generalize hX : gd l i = X at *; obtain ⟨xi, xe, xp⟩ := X
    try simp only at *
    generalize verB r n xi xe xp = v at *
    have h0b : ((i : Int) == 0) = decide (i = 0) := by rw [L1i]; simp
    have hj : ((i : Int) - 1).toNat = i - 1 := by omega
    simp -implicitDefEqProofs (disch := omega) only [go_sem, e3, e14, e15, e16, m3, hX, h0b]
    refine Jab (fun h0 => ?_) (fun h0 => ?_)
    . rw [decide_eq_true (Or.inl h0), L0k] at hx; simp -implicitDefEqProofs (disch := omega) only [go_sem, e3, e14, e15, e16, m3, hX]
      refine Jab (fun h5 => ?_) (fun h5 => ?_)
      . rw [decide_eq_false (by omega), L0c, L0c] at hx
        subst hx; simp -implicitDefEqProofs (disch := omega) only [go_sem, e3, e14, e15, e16, m3, hX, results85]
      . rw [decide_eq_true (by omega), L0k] at hx
        simp -implicitDefEqProofs (disch := omega) only [go_sem, e3, e14, e15, e16, m3, hX]
        refine Jaa (d4 (by omega)) ?_
        cases v
        . rw [L0c] at hx; subst hx; simp -implicitDefEqProofs (disch := omega) only [go_sem, e3, e14, e15, e16, m3, hX, results85]
        . rw [L0k] at hx; simp -implicitDefEqProofs (disch := omega) only [go_sem, e3, e14, e15, e16, m3, hX]
          refine Jae (l.length - (i + 1)) hdec.1 ⟨i + 1, hdec.2, hx, ?_⟩
          simp -implicitDefEqProofs (disch := omega) only [go_sem, e3, e14, e15, e16, m3, hX]; try rfl
    . simp -implicitDefEqProofs (disch := omega) only [go_sem, e3, e14, e15, e16, m3, hX, hj]
      refine Jab (fun h2 => ?_) (fun h2 => ?_)
      . rw [decide_eq_false (fun h => by rcases h with h | h; exact h0 h; exact h2 h.2), L0c, L0c] at hx
        subst hx; simp -implicitDefEqProofs (disch := omega) only [go_sem, e3, e14, e15, e16, m3, hX, results85]
      . rw [decide_eq_true (Or.inr ⟨by omega, by omega⟩), L0k] at hx
        simp -implicitDefEqProofs (disch := omega) only [go_sem, e3, e14, e15, e16, m3, hX]
        refine Jab (fun h5 => ?_) (fun h5 => ?_)
        . rw [decide_eq_false (by omega), L0c, L0c] at hx
          subst hx; simp -implicitDefEqProofs (disch := omega) only [go_sem, e3, e14, e15, e16, m3, hX, results85]
        . rw [decide_eq_true (by omega), L0k] at hx
          simp -implicitDefEqProofs (disch := omega) only [go_sem, e3, e14, e15, e16, m3, hX]
          refine Jaa (d4 (by omega)) ?_
          cases v
          . rw [L0c] at hx; subst hx; simp -implicitDefEqProofs (disch := omega) only [go_sem, e3, e14, e15, e16, m3, hX, results85]
          . rw [L0k] at hx; simp -implicitDefEqProofs (disch := omega) only [go_sem, e3, e14, e15, e16, m3, hX]
            refine Jae (l.length - (i + 1)) hdec.1 ⟨i + 1, hdec.2, hx, ?_⟩
            simp -implicitDefEqProofs (disch := omega) only [go_sem, e3, e14, e15, e16, m3, hX]; try rfl
  . obtain rfl : i = l.length := by omega
    rw [L0H] at hx
    have hx : z = true := hx
    subst hx; simp -implicitDefEqProofs (disch := omega) only [go_sem, e3, e14, e15, e16, m3, results85]
end Go.Proofs.YtnpbhgeffapojaaGreatDoor
namespace Go.Vai
open Go.RowKit
end Go.Vai
set_option maxRecDepth 100000
namespace Go.Proofs.YtnpbhgeffapojaaGreatDoor
open Go.Proofs.Tryz
open Go.Vai Go Go.Proofs
section
variable (p : Nat -> Bool) (l : List It)
end
@[go_sem] theorem JCJ {σ : Jac} {R : AV -> Prop} (es : List AV) : retK σ R [.mp es] = R (.mp es) := by
  simp only [retK, JeQ, Jaq, AV.single, expo, Jfg (vs := [.mp es]) rfl, Jco, eq_iff_iff, true_and]
  refine ⟨fun h => h.2, fun h => ⟨⟨List.nodup_nil, fun v hv => ?_⟩, h⟩⟩
  rw [L0p] at hv; subst hv
  try trivial
@[go_sem] theorem Juq (b : Option Nat) : ((Value.map b).oneCell' = true) = True := by cases b <;> simp [Value.oneCell']
section
variable (q : Nat -> Bool) (es : List AV)
@[go_sem] theorem ok_mp : AV.ok (.mp es) = true := rfl
@[go_sem] theorem cells_mp : AV.cells (.mp es) = [.mp es] := rfl
@[go_sem] theorem JB7 : AV.kill q (.mp es) = .mp es := by
  unfold AV.kill
  split <;> rfl
end
theorem JaE (c n : Int) (hc : R64 c) (hn : 0 < n) : Ev prog 52 [I c, I n] (I (Jad c n)) := by
  obtain ⟨h1, h2⟩ := hc
  refine EV func52 ?_
  simp -implicitDefEqProofs (disch := omega) only [go_sem, ntmps52]
  refine Jab (fun h => ?_) (fun h => ?_) <;> simp -implicitDefEqProofs (disch := omega) only [go_sem, results52]
  . rw [show (0 - (c+1)) = -(c+1) from by omega]; simp [Jad, h]
  . simp [Jad, h]
theorem Jbz (c n : Int) (hc : R64 c) (hn : 0 < n) : Ev prog 15 [I c, I n] (I (Jad c n)) := by
  obtain ⟨h1, h2⟩ := hc
  refine EV func15 ?_
  simp -implicitDefEqProofs (disch := omega) only [go_sem, ntmps15]
  refine Jab (fun h => ?_) (fun h => ?_) <;> simp -implicitDefEqProofs (disch := omega) only [go_sem, results15]
  . rw [show (0 - (c+1)) = -(c+1) from by omega]; simp [Jad, h]
  . simp [Jad, h]
def keyF (c : Int) : ByteArray := strOfNums (List.replicate 32 (100 + c))
theorem JdF (c : Int) : (keyF c).size = 32 := by unfold keyF; rw [strOfNums_size]; simp
def Jf4 (b : Int) (v : Nat) : List Int := List.replicate v b ++ List.replicate (32 - v) 0
theorem Jor (b : Int) (v : Nat) (hv : v < 32) : (Jf4 b v).set v b = Jf4 b (v + 1) := by
  unfold Jf4
  rw [List.set_append_right _ _ (by simp), List.length_replicate, L1p, show 32 - v = (32 - (v + 1)) + 1 from by omega, List.replicate_succ, List.set_cons_zero, L2k]
  simp
theorem Jjo (b : Int) (v : Nat) (hv : v <= 32) : (Jf4 b v).length = 32 := by unfold Jf4; simp; omega
@[go_sem] theorem made_Y (n : Nat) : List.replicate n (Y 0) = (List.replicate n 0).map Y := by simp
theorem JoW (c : Int) (hc : 0 <= c /\ c <= 100) : Ev prog 36 [I c] (Str (keyF c)) := by
  have hw8 : IntKind.u8.wrap (100 + c) = 100 + c := by simp [IntKind.wrap, IntKind.bits, IntKind.signed]; omega
  have hb : R64 (100 + c) := by constructor <;> omega
  refine EV func36 ?_
  unfold keyF; simp -implicitDefEqProofs (disch := omega) only [go_sem, ntmps36]
  refine Jag (fun n E σ => ∃ v : Nat, v + n = 32 /\ E 0 = I c /\ E 3 = .own 77594704 1 0 32 /\ E 4 = I v /\ σ 77594704 = some ⟨5, 1, (Jf4 (100 + c) v).map Y⟩) 32 ⟨0, by omega, ?_⟩ ?_
  . simp -implicitDefEqProofs (disch := omega) only [go_sem]
    exact ⟨rfl, rfl⟩
  . rintro n E σ ⟨v, hv, h0, h3, h4, sB⟩
    have hfl := Jjo (100 + c) v (by omega)
    simp -implicitDefEqProofs (disch := omega) only [go_sem, h0, h3, h4, sB]
    refine Jab (fun hc => ?_) (fun hc => ?_)
    . have hset := Jor (100 + c) v (by omega)
      simp -implicitDefEqProofs (disch := omega) only [go_sem, h0, h3, h4, sB, hfl, hset, hw8]
      refine Jae (n - 1) (by omega) ⟨v + 1, by omega, ?_⟩
      simp -implicitDefEqProofs (disch := omega) only [go_sem, h0, h3, h4, sB, hfl, hset, hw8]
      simp
    . obtain rfl : v = 32 := by omega
      have hfb : Jf4 (100 + c) 32 = List.replicate 32 (100 + c) := by simp [Jf4]
      rw [hfb] at sB hfl; generalize hrb : List.replicate 32 (100 + c) = rb at *
      have hrt : rb.take 32 = rb := L09 (by omega)
      simp -implicitDefEqProofs (disch := omega) only [go_sem, h0, h3, h4, sB, hfl]
      refine Jeb rb (by simp -implicitDefEqProofs (disch := omega) only [go_sem, h3, sB, hfl, hrt]) (by intro b; simp -implicitDefEqProofs (disch := omega) only [go_sem, h3]; intro e; cases e) (e := 5) rfl rfl rfl ?_
      simp -implicitDefEqProofs (disch := omega) only [go_sem, h0, h3, h4, sB, hfl, results36]
def posE (u : ByteArray) : List ByteArray -> Nat -> Option Nat
  | [], _ => none
  | e :: l, v => if e = u then some v else posE u l (v + 1)
def addM : List (ByteArray × AV) -> Nat -> List ByteArray -> List (ByteArray × AV)
  | M, _, [] => M
  | M, v, e :: l => addM (match JbH e M with | some _ => M | none => M ++ [(e, I v)]) (v + 1) l
theorem JjA {e : ByteArray} : ∀ {M : List (ByteArray × AV)}, JbH e M = none -> idxS e M = none
  | [], _ => rfl
  | p :: r, h => by
    rw [JbH] at h
    split at h
    . cases h
    . rename_i hp
      rw [idxS, if_neg hp, JjA h]; rfl
theorem Jma {e : ByteArray} {M : List (ByteArray × AV)} (x : AV) (h : JbH e M = none) : JkW M e x = M ++ [(e, x)] := by
  unfold JkW; rw [JjA h]
theorem JlK (u e : ByteArray) (x : AV) : ∀ M : List (ByteArray × AV), JbH u (M ++ [(e, x)]) = match JbH u M with | some a => some a | none => if e = u then some x else none
  | [] => rfl
  | p :: r => by
    rw [L0w, JbH, JbH]
    by_cases h : p.1 = u
    . rw [if_pos h, if_pos h]
    . rw [if_neg h, if_neg h]; exact JlK u e x r
theorem JoB (u : ByteArray) : ∀ (L : List ByteArray) (v : Nat) (M : List (ByteArray × AV)), JbH u (addM M v L) = match JbH u M with | some a => some a | none => (posE u L v).map fun p => I p
  | [], v, M => by
    rw [addM]
    cases JbH u M <;> rfl
  | e :: l, v, M => by
    rw [addM, JoB u l (v + 1)]
    cases he : JbH e M with
    | some a =>
      simp only
      cases hu : JbH u M with
      | some b => rfl
      | none =>
        have hne : e ≠ u := fun h => by rw [h, hu] at he; cases he
        simp only [posE, if_neg hne]
    | none =>
      simp only [JlK]
      cases hu : JbH u M with
      | some b => rfl
      | none =>
        simp only [posE]
        by_cases h : e = u
        . simp [h]
        . simp [h]
theorem Jpt (u : ByteArray) : ∀ (L : List ByteArray) (v p : Nat), posE u L v = some p -> v <= p
  | [], v, p, h => by cases h
  | e :: l, v, p, h => by
    rw [posE] at h
    split at h
    . cases h; exact L0a _
    . have := Jpt u l (v + 1) p h; omega
def fstP (x y : Option Nat) : Int := match x, y with
  | none, none => 0
  | some _, none => 1
  | none, some _ => 2
  | some a, some b => if a < b then 1 else 2
theorem Jow {u w : ByteArray} (h : u ≠ w) : ∀ (L : List ByteArray) (v : Nat), fstF u w L = fstP (posE u L v) (posE w L v)
  | [], v => rfl
  | e :: l, v => by
    rw [fstF, posE, posE]
    by_cases h1 : e = u
    . rw [if_pos h1, if_pos h1, if_neg (fun h2 => h (h1.symm.trans h2))]
      cases hp : posE w l (v + 1) with
      | none => rfl
      | some b =>
        have := Jpt w l (v + 1) b hp
        show 1 = if v < b then (1 : Int) else 2
        rw [if_pos (by omega)]
    . rw [if_neg h1, if_neg h1]
      by_cases h2 : e = w
      . rw [if_pos h2, if_pos h2]
        cases hp : posE u l (v + 1) with
        | none => rfl
        | some b =>
          have := Jpt u l (v + 1) b hp
          show 2 = if b < v then (1 : Int) else 2
          rw [if_neg (by omega)]
      . rw [if_neg h2, if_neg h2]; exact Jow h l (v + 1)
def evM (L : List ByteArray) : List (ByteArray × AV) := addM [] 0 L
theorem JoC (u : ByteArray) (L : List ByteArray) : JbH u (evM L) = (posE u L 0).map fun p => I p := JoB u L 0 []
theorem JmQ (L : List ByteArray) (u w : ByteArray) : JaC L u w = if u = w then 0 else fstP (posE u L 0) (posE w L 0) := by
  unfold JaC
  by_cases h : u = w
  . rw [if_pos h, if_pos h]
  . rw [if_neg h, if_neg h, Jow h L 0]
def mI (N : List (ByteArray × Nat)) : List (ByteArray × AV) := N.map fun q => (q.1, I q.2)
theorem JkU (N : List (ByteArray × Nat)) (e : ByteArray) (v : Nat) : mI N ++ [(e, I v)] = mI (N ++ [(e, v)]) := by unfold mI; rw [L14]; rfl
section
variable (p : Nat -> Bool) (N : List (ByteArray × Nat))
@[go_sem] theorem JxU : AV.namesL p ((mI N).map entS) = false := by
  unfold mI; rw [L19]; exact Jal p N _ fun _ => rfl
end
theorem JxO {e : ByteArray} {v : AV} {N : List (ByteArray × Nat)} (h : JbH e (mI N) = some v) : ∃ n : Nat, v = I n := by
  obtain ⟨q, _, hq⟩ := L06.1 (JjI h)
  cases hq; exact ⟨q.2, rfl⟩
section
variable (p : Nat -> Bool) (es l : List AV) (σ : Jac)
@[go_sem] theorem JyP : Jaq (.mp es :: l) = Jaq l := rfl
@[go_sem] theorem JBA : JbM σ p (.mp es) = True := by simp [JbM, AV.namesB]
@[go_sem] theorem JBE : expo σ p (.mp es) = .mp es := rfl
end
theorem Jp4 : prog.underlying 128 = some (.map 9 3) := by kernel_rfl
theorem JrY : prog.underlying 9 = some .string := by kernel_rfl
theorem tz_i : tz prog 3 = some (.int .i64 0) := by kernel_rfl
theorem JnH : ∀ (L : List ByteArray) (v : Nat) (N : List (ByteArray × Nat)), ∃ N', addM (mI N) v L = mI N'
  | [], v, N => ⟨N, rfl⟩
  | e :: l, v, N => by
    rw [addM]
    cases JbH e (mI N) with
    | some a => exact JnH l (v + 1) N
    | none => simp only; rw [JkU]; exact JnH l (v + 1) _
theorem JeP (L : List ByteArray) : ∃ N, evM L = mI N := JnH L 0 []
set_option maxHeartbeats 1000000 in
theorem Jk4 (key : ByteArray) (p : Pt) (hp : PtOK p) : Ev prog 61 [Str key, PTP p] (.tup [.mp ((evM (evF key p)).map entS), B (Jb4 key p)]) := by
  have c1 := JqH key p hp
  have he : evF key p = if Jb4 key p = true then preF p else [] := rfl
  rw [he]; clear he
  obtain ⟨⟨c, n, r, s⟩, l⟩ := p
  obtain ⟨hp1, hp2, hp3⟩ := hp
  have hpre : preF ⟨⟨c, n, r, s⟩, l⟩ = preN 0 l := rfl
  rw [hpre]
  simp only at *
  generalize Jb4 key ⟨⟨c, n, r, s⟩, l⟩ = g at *
  refine EW [3, 12] func61 ?_
  simp -implicitDefEqProofs (disch := omega) only [go_sem, ntmps61]
  refine Jm4 ?_
  simp -implicitDefEqProofs (disch := omega) only [go_sem]
  refine Jaa c1 ?_
  cases g with
  | false =>
    rw [if_neg (by decide)]
    simp -implicitDefEqProofs (disch := omega) only [go_sem]
    refine JaK Plain.mono [130023600] ?_
    simp -implicitDefEqProofs (disch := omega) only [go_sem]; simp -implicitDefEqProofs (disch := omega) only [go_sem, results61]; try rfl
  | true =>
  rw [if_pos rfl]
  obtain ⟨FM, hFM⟩ : ∃ FM, evM (preN 0 l) = FM := ⟨_, rfl⟩
  rw [hFM]
  have hFM : FM = addM (mI []) 0 (preN 0 (l.drop 0)) := hFM.symm
  simp -implicitDefEqProofs (disch := omega) only [go_sem]
  refine Jag (fun k E σ => ∃ (i : Nat) (N : List (ByteArray × Nat)), i + k = l.length /\ FM = addM (mI N) i (preN i (l.drop i)) /\ E 6 = .mref 130023600 /\ E 18 = ITS l /\ E 19 = I l.length /\ E 20 = I i /\ σ 130023600 = some ⟨128, 0, (mI N).map entS⟩) l.length ⟨0, [], by omega, hFM, ?_⟩ ?_
  . simp -implicitDefEqProofs (disch := omega) only [go_sem]
    exact ⟨rfl, rfl⟩
  rintro k E σ ⟨i, N, hk, hx, e6, e18, e19, e20, m6⟩
  simp -implicitDefEqProofs (disch := omega) only [go_sem, e6, e18, e19, e20, m6]
  have fin : ∀ (N : List (ByteArray × Nat)), FM = mI N -> True := fun _ _ => trivial
  refine Jab (fun hc => ?_) (fun hc => ?_)
  . have hi : i < l.length := by omega
    have hdec : l.length - (i + 1) < k /\ i + 1 + (l.length - (i + 1)) = l.length := by omega
    rw [JaU l i hi, preN] at hx; simp -implicitDefEqProofs (disch := omega) only [go_sem, e6, e18, e19, e20, m6]
    refine Jab (fun h1 => ?_) (fun h1 => ?_)
    . rw [if_neg (by omega)] at hx
      have hx : FM = mI N := hx
      subst hx; simp -implicitDefEqProofs (disch := omega) only [go_sem, e6, e18, e19, e20, m6]
      refine JaK Plain.mono [130023600] ?_
      simp -implicitDefEqProofs (disch := omega) only [go_sem, e6, e18, e19, e20, m6]; simp -implicitDefEqProofs (disch := omega) only [go_sem, e6, e18, e19, e20, m6, results61]
    . rw [if_pos (by omega), addM] at hx
      simp -implicitDefEqProofs (disch := omega) only [go_sem, e6, e18, e19, e20, m6]
      refine Jm2 (kt := 9) (et := 3) (id := 130023600) (e := 128) (l := mI N) (n := (gd l i).e) ?_ ?_ ?_ Jp4 JrY tz_i (fun v hv => ?_) (fun hv => ?_)
      . simp -implicitDefEqProofs (disch := omega) only [go_sem, e6, e18, e19, e20, m6]
      . simp -implicitDefEqProofs (disch := omega) only [go_sem, e6, e18, e19, e20, m6]
      . simp -implicitDefEqProofs (disch := omega) only [go_sem, e6, e18, e19, e20, m6]
      . rw [hv] at hx
        obtain ⟨v', rfl⟩ := JxO hv
        simp only at hx
        simp -implicitDefEqProofs (disch := omega) only [go_sem, e6, e18, e19, e20, m6]
        refine Jae (l.length - (i + 1)) hdec.1 ⟨i + 1, N, hdec.2, hx, ?_⟩
        simp -implicitDefEqProofs (disch := omega) only [go_sem, e6, e18, e19, e20, m6]; try rfl
      . rw [hv] at hx
        simp only at hx
        rw [JkU] at hx; have hput := (Jma (I i) hv).trans (JkU ..); simp -implicitDefEqProofs (disch := omega) only [go_sem, e6, e18, e19, e20, m6]
        refine JiE (kt := 9) (et := 3) (id := 130023600) (e := 128) (l := mI N) (n := (gd l i).e) ?_ ?_ ?_ Jp4 JrY ?_
        . simp -implicitDefEqProofs (disch := omega) only [go_sem, e6, e18, e19, e20, m6]
        . simp -implicitDefEqProofs (disch := omega) only [go_sem, e6, e18, e19, e20, m6]
        . simp -implicitDefEqProofs (disch := omega) only [go_sem, e6, e18, e19, e20, m6]
        . simp -implicitDefEqProofs (disch := omega) only [go_sem, e6, e18, e19, e20, m6]; rw [hput]
          refine Jae (l.length - (i + 1)) hdec.1 ⟨i + 1, N ++ [((gd l i).e, i)], hdec.2, hx, ?_⟩
          simp -implicitDefEqProofs (disch := omega) only [go_sem, e6, e18, e19, e20, m6]; try rfl
  . obtain rfl : i = l.length := by omega
    rw [L0H] at hx
    have hx : FM = mI N := hx
    subst hx; simp -implicitDefEqProofs (disch := omega) only [go_sem, e6, e18, e19, e20, m6]
    refine JaK Plain.mono [130023600] ?_
    simp -implicitDefEqProofs (disch := omega) only [go_sem, e6, e18, e19, e20, m6]; simp -implicitDefEqProofs (disch := omega) only [go_sem, e6, e18, e19, e20, m6, results61]
theorem JhP {S : Sp} {dst : Option Nat} {t ty kt et : TypeId} {x y : Operand} {K : Env -> Jac -> Prop} {E : Env} {σ : Jac} {l : List (ByteArray × AV)} {n : ByteArray} {o : Option Nat}
    (hg : JbH n l = o.map fun p => I p) (hx : ev E x = .mp (l.map entS)) (hy : ev E y = .v (.string n)) (ht : S.P.underlying t = some (.map kt et)) (hk : S.P.underlying kt = some .string) (hz : tz S.P et = some (.int .i64 0))
    (h : K (updO E dst (.tup [I (o.getD 0 : Nat), B o.isSome])) σ)
    (hfit : (dst.all (decide <| · < S.N) && Op.low S.N (.lookup t x y true)) = true := by kernel_rfl) : semD S dst (.lookup t x y true) ty K E σ := by
  refine Jm1 hx hy ht hk hz (fun v hv => ?_) (fun hv => ?_) hfit
  . cases o with
    | none => rw [hg] at hv; cases hv
    | some a =>
      rw [hg] at hv
      cases hv
      exact h
  . cases o with
    | some a => rw [hg] at hv; cases hv
    | none => exact h
theorem JsU : prog.underlying 128 = some (.map 9 3) := by kernel_rfl
theorem Jis (L : List ByteArray) (u w : ByteArray) : Ev prog 62 [.mp ((evM L).map entS), Str u, Str w] (I (JaC L u w)) := by
  have h1 := JoC u L; have h2 := JoC w L; have hf := JmQ L u w; generalize JaC L u w = z at *; generalize evM L = M at *; generalize posE u L 0 = x at *; generalize posE w L 0 = y at *
  have hd : ((u.toList == w.toList)) = decide (u = w) := JiX u w
  refine EV func62 ?_
  simp -implicitDefEqProofs (disch := omega) only [go_sem, ntmps62]
  refine JhP (l := M) (n := u) (kt := 9) (et := 3) h1 ?_ ?_ JsU JrY tz_i ?_
  . simp -implicitDefEqProofs (disch := omega) only [go_sem]
  . simp -implicitDefEqProofs (disch := omega) only [go_sem]
  simp -implicitDefEqProofs (disch := omega) only [go_sem]
  refine JhP (l := M) (n := w) (kt := 9) (et := 3) h2 ?_ ?_ JsU JrY tz_i ?_
  . simp -implicitDefEqProofs (disch := omega) only [go_sem]
  . simp -implicitDefEqProofs (disch := omega) only [go_sem]
  simp -implicitDefEqProofs (disch := omega) only [go_sem, hd]
  refine Jab (fun h3 => ?_) (fun h3 => ?_)
  . rw [if_pos h3] at hf; subst hf; simp -implicitDefEqProofs (disch := omega) only [go_sem, results62]
  rw [if_neg h3] at hf
  cases x with
  | none => cases y with
    | none => subst hf; simp -implicitDefEqProofs (disch := omega) only [go_sem, Option.isSome, Option.getD, results62]; try rfl
    | some b => subst hf; simp -implicitDefEqProofs (disch := omega) only [go_sem, Option.isSome, Option.getD, results62]; try rfl
  | some a => cases y with
    | none => subst hf; simp -implicitDefEqProofs (disch := omega) only [go_sem, Option.isSome, Option.getD, results62]; try rfl
    | some b =>
      simp -implicitDefEqProofs (disch := omega) only [go_sem, Option.isSome, Option.getD]
      refine Jab (fun h4 => ?_) (fun h4 => ?_)
      . have : fstP (some a) (some b) = 1 := if_pos (by omega)
        rw [this] at hf; subst hf; simp -implicitDefEqProofs (disch := omega) only [go_sem, results62]
      . have : fstP (some a) (some b) = 2 := if_neg (by omega)
        rw [this] at hf; subst hf; simp -implicitDefEqProofs (disch := omega) only [go_sem, results62]
theorem JcT (key : ByteArray) (p : Pt) (u w : ByteArray) (hp : PtOK p) : Ev prog 19 [Str key, PTP p, Str u, Str w] (I (JaC (evF key p) u w)) := by
  have c1 := Jk4 key p hp; have c2 := Jis (evF key p) u w
  obtain ⟨N, hN⟩ := JeP (evF key p)
  rw [hN] at c1 c2; generalize evF key p = L at *; generalize JaC L u w = z at *; generalize Jb4 key p = g at *
  refine EV func19 ?_
  simp -implicitDefEqProofs (disch := omega) only [go_sem, ntmps19]
  refine Jaa c1 ?_
  simp -implicitDefEqProofs (disch := omega) only [go_sem]
  refine Jaa c2 ?_
  simp -implicitDefEqProofs (disch := omega) only [go_sem, results19]
def bilW (o : Option Sn) (f : Int) (sa sb : Option Sn) : (Int × Int) × Int := match o with
  | some s => (JaZ s, 0)
  | none =>
    if f = 1 then (match sa with | some s => (JaZ s, 1) | none => ((0, 0), 0))
    else if f = 2 then (match sb with | some s => (JaZ s, 2) | none => ((0, 0), 0))
    else ((0, 0), 0)
theorem JqC (L : List ByteArray) (a b : Ck) (l : Lg) : Jci L a b l = bilW (Jbr a b l) (JaC L (recF l 1) (recF l 2)) (Jbx a l.g) (Jbx b l.k) := rfl
abbrev biV (w : (Int × Int) × Int) : AV := .tup [WNP w.1, I w.2]
set_option maxHeartbeats 2000000 in
theorem Jje (L : List ByteArray) (a b : Ck) (l : Lg) (hl : legF l = true) (ha : a.r.length <= 9223372036854775807) (hb : b.r.length <= 9223372036854775807) : Ev prog 76 [.mp ((evM L).map entS), CKP a, CKP b, LGP l] (biV (Jci L a b l)) := by
  have c1 := Jdw a b l ha hb; have c2 := JfX l 1; have c3 := JfX l 2
  have r1 : recV l 1 = .tup [Str (recF l 1), I 0] := if_pos ⟨hl, by omega⟩
  have r2 : recV l 2 = .tup [Str (recF l 2), I 0] := if_pos ⟨hl, by omega⟩
  rw [r1] at c2; rw [r2] at c3; have c4 := Jis L (recF l 1) (recF l 2); have c5 := JcI a l.g ha; have c6 := JcI b l.k hb; have hf := Jjp L (recF l 1) (recF l 2); rw [JqC]
  obtain ⟨N, hN⟩ := JeP L
  rw [hN] at c4 ⊢; clear r1 r2; generalize Jbr a b l = o at *; generalize JaC L (recF l 1) (recF l 2) = f at *; generalize recF l 1 = R1 at *; generalize recF l 2 = R2 at *; generalize Jbx a l.g = sa at *; generalize Jbx b l.k = sb at *; obtain ⟨ad, ar⟩ := a; obtain ⟨bd, br⟩ := b; obtain ⟨lf, lt, lg, lk⟩ := l
  simp only at *
  refine EW [7, 9] func76 ?_
  simp -implicitDefEqProofs (disch := omega) only [go_sem, ntmps76]
  cases o with
  | some s =>
    refine Jaa c1 ?_
    simp -implicitDefEqProofs (disch := omega) only [go_sem]
    refine Jaa (Jfk s) ?_
    simp -implicitDefEqProofs (disch := omega) only [go_sem, results76]; try rfl
  | none =>
  refine Jaa c1 ?_
  simp -implicitDefEqProofs (disch := omega) only [go_sem]
  refine Jaa c2 ?_
  simp -implicitDefEqProofs (disch := omega) only [go_sem]
  refine Jaa c3 ?_
  simp -implicitDefEqProofs (disch := omega) only [go_sem]
  refine Jaa c4 ?_
  simp -implicitDefEqProofs (disch := omega) only [go_sem]
  refine Jd5 (fun D E σ => E 0 = .mp ((mI N).map entS) /\ E 5 = .ptr 161480784 2 0 0 /\ E 6 = .ptr 161480800 2 0 0 /\ E 7 = .ptr 161480816 6 0 0 /\ E 8 = .ptr 161480832 2 0 0 /\ E 16 = I f /\ σ 161480784 = some ⟨58, 2, [.agg [I ad, RDS ar]]⟩ /\ σ 161480800 = some ⟨58, 2, [.agg [I bd, RDS br]]⟩ /\ σ 161480816 = some ⟨33, 6, [.agg [I lf, I lt, I lg.b, I lg.e, I lk.b, I lk.e]]⟩ /\ σ 161480832 = some ⟨66, 2, [.agg [I 0, I 0]]⟩ /\ (D 5 = true -> D 3 = true) /\ (D 6 = true -> D 4 = true) /\ (D 3 = true -> D 5 = false -> σ 161480976 = some ⟨58, 2, [.agg [I 0, .v (.slice none 0 0)]]⟩) /\ (D 5 = true -> σ 161480976 = some ⟨58, 2, [.agg [I ad, RDS ar]]⟩) /\ (D 4 = true -> D 6 = false -> σ 161480992 = some ⟨31, 2, [.agg [I 0, I 0]]⟩) /\ (D 6 = true -> σ 161480992 = some ⟨31, 2, [.agg [I lg.b, I lg.e]]⟩) /\ (D 0 = true -> E 45 = .agg [I ad, RDS ar]) /\ (D 1 = true -> E 46 = .ptr 161480816 6 0 2) /\ (D 2 = true -> E 47 = .agg [I lg.b, I lg.e]) /\ (D 3 = true -> E 17 = .ptr 161480976 2 0 0) /\ (D 4 = true -> E 18 = .ptr 161480992 2 0 0)) ?_ ?_ ?_
  . simp -implicitDefEqProofs (disch := omega) only [go_sem, false_and, and_self]; try simp
  . simp only [Jfd, depK, Region.binds, eq_self, forall_const, and_true]
    repeat' apply And.intro
    all_goals
      rintro D E σ ⟨e0, e5, e6, e7, e8, e16, m5, m6, m7, m8, c5_3, c6_4, m0_0, m0_1, m1_0, m1_1, j0, j1, j2, j3, j4⟩ hd
      have k := And.intro trivial <| And.intro (cK c5_3) <| And.intro (cK c6_4) trivial
      simp -implicitDefEqProofs (disch := first | assumption | (simp only [hd, k]; done) | omega) only [go_sem, e0, e5, e6, e7, e8, e16, m5, m6, m7, m8, m0_0, m0_1, m1_0, m1_1, j0, j1, j2, j3, j4, false_and, and_self]
      repeat' apply And.intro
      all_goals first | assumption | (intro _; assumption) | trivial | (simp -implicitDefEqProofs (contextual := true) (disch := first | assumption | omega) only [go_sem, m0_0, m0_1, m1_0, m1_1, j0, j1, j2, j3, j4, hd, c5_3, c6_4, k, implies_true, forall_const, false_implies, true_implies]; done) | (intro h; intros; exfalso; simp (maxDischargeDepth := 9) [hd, k] at h; done) | (intros; contradiction) | trace_state
  . rintro D E σ hD ⟨e0, e5, e6, e7, e8, e16, m5, m6, m7, m8, c5_3, c6_4, m0_0, m0_1, m1_0, m1_1, j0, j1, j2, j3, j4⟩
    have g0 := m0_1 (hD 5 (by decide))
    have g1 := m1_1 (hD 6 (by decide))
    have q0 := j0 (hD 0 (by decide))
    have q1 := j1 (hD 1 (by decide))
    have q2 := j2 (hD 2 (by decide))
    have q3 := j3 (hD 3 (by decide))
    have q4 := j4 (hD 4 (by decide))
    clear c5_3 c6_4 m0_0 m0_1 m1_0 m1_1 j0 j1 j2 j3 j4 hD
    have hfc : f = 0 \/ f = 1 \/ f = 2 := by omega
    rcases hfc with rfl | rfl | rfl
    . cases sa with
      | none =>
        simp -implicitDefEqProofs (disch := omega) only [go_sem, e0, e5, e6, e7, e8, e16, m5, m6, m7, m8, q3, q4, g0, g1]
        refine Jaa c5 ?_
        simp -implicitDefEqProofs (disch := omega) only [go_sem, e0, e5, e6, e7, e8, e16, m5, m6, m7, m8, q3, q4, g0, g1, results76]; try rfl
      | some s =>
        simp -implicitDefEqProofs (disch := omega) only [go_sem, e0, e5, e6, e7, e8, e16, m5, m6, m7, m8, q3, q4, g0, g1]
        refine Jaa c5 ?_
        simp -implicitDefEqProofs (disch := omega) only [go_sem, e0, e5, e6, e7, e8, e16, m5, m6, m7, m8, q3, q4, g0, g1, results76]; try rfl
    . cases sa with
      | none =>
        simp -implicitDefEqProofs (disch := omega) only [go_sem, e0, e5, e6, e7, e8, e16, m5, m6, m7, m8, q3, q4, g0, g1]
        refine Jaa c5 ?_
        simp -implicitDefEqProofs (disch := omega) only [go_sem, e0, e5, e6, e7, e8, e16, m5, m6, m7, m8, q3, q4, g0, g1, results76]; try rfl
      | some s =>
        simp -implicitDefEqProofs (disch := omega) only [go_sem, e0, e5, e6, e7, e8, e16, m5, m6, m7, m8, q3, q4, g0, g1]
        refine Jaa c5 ?_
        simp -implicitDefEqProofs (disch := omega) only [go_sem, e0, e5, e6, e7, e8, e16, m5, m6, m7, m8, q3, q4, g0, g1]
        refine Jaa (Jfk s) ?_
        simp -implicitDefEqProofs (disch := omega) only [go_sem, e0, e5, e6, e7, e8, e16, m5, m6, m7, m8, q3, q4, g0, g1, results76]; try rfl
    . simp -implicitDefEqProofs (disch := omega) only [go_sem, e0, e5, e6, e7, e8, e16, m5, m6, m7, m8, q3, q4, g0, g1]
      refine Jd5 (fun D E σ => E 0 = .mp ((mI N).map entS) /\ E 5 = .ptr 161480784 2 0 0 /\ E 6 = .ptr 161480800 2 0 0 /\ E 7 = .ptr 161480816 6 0 0 /\ E 8 = .ptr 161480832 2 0 0 /\ E 16 = I 2 /\ σ 161480784 = some ⟨58, 2, [.agg [I ad, RDS ar]]⟩ /\ σ 161480800 = some ⟨58, 2, [.agg [I bd, RDS br]]⟩ /\ σ 161480816 = some ⟨33, 6, [.agg [I lf, I lt, I lg.b, I lg.e, I lk.b, I lk.e]]⟩ /\ σ 161480832 = some ⟨66, 2, [.agg [I 0, I 0]]⟩ /\ E 17 = .ptr 161480976 2 0 0 /\ E 18 = .ptr 161480992 2 0 0 /\ (D 3 = false -> σ 161480976 = some ⟨58, 2, [.agg [I ad, RDS ar]]⟩) /\ (D 3 = true -> σ 161480976 = some ⟨58, 2, [.agg [I bd, RDS br]]⟩) /\ (D 4 = false -> σ 161480992 = some ⟨31, 2, [.agg [I lg.b, I lg.e]]⟩) /\ (D 4 = true -> σ 161480992 = some ⟨31, 2, [.agg [I lk.b, I lk.e]]⟩) /\ (D 0 = true -> E 50 = .agg [I bd, RDS br]) /\ (D 1 = true -> E 51 = .ptr 161480816 6 0 4) /\ (D 2 = true -> E 52 = .agg [I lk.b, I lk.e])) ?_ ?_ ?_
      . simp -implicitDefEqProofs (disch := omega) only [go_sem, q3, q4, g0, g1, false_and, and_self]
        refine ⟨e0, e5, e6, e7, e8, e16, m5, m6, m7, m8, ?_⟩; simp
      . simp only [Jfd, depK, Region.binds, eq_self, forall_const, and_true]
        repeat' apply And.intro
        all_goals
          rintro D E σ ⟨e0, e5, e6, e7, e8, e16, m5, m6, m7, m8, e17, e18, m0_0, m0_1, m1_0, m1_1, j0, j1, j2⟩ hd
          simp -implicitDefEqProofs (disch := first | assumption | (simp only [hd]; done) | omega) only [go_sem, e0, e5, e6, e7, e8, e16, m5, m6, m7, m8, e17, e18, m0_0, m0_1, m1_0, m1_1, j0, j1, j2, q3, q4, g0, g1, false_and, and_self]
          repeat' apply And.intro
          all_goals first | assumption | (intro _; assumption) | trivial | (simp -implicitDefEqProofs (contextual := true) (disch := first | assumption | omega) only [go_sem, m0_0, m0_1, m1_0, m1_1, j0, j1, j2, hd, implies_true, forall_const, false_implies, true_implies]; done) | (intros; contradiction) | trace_state
      . rintro D E σ hD ⟨e0, e5, e6, e7, e8, e16, m5, m6, m7, m8, e17, e18, m0_0, m0_1, m1_0, m1_1, j0, j1, j2⟩
        have g0 := m0_1 (hD 3 (by decide))
        have g1 := m1_1 (hD 4 (by decide))
        have q0 := j0 (hD 0 (by decide))
        have q1 := j1 (hD 1 (by decide))
        have q2 := j2 (hD 2 (by decide))
        clear m0_0 m0_1 m1_0 m1_1 j0 j1 j2 hD
        cases sb with
        | none =>
          simp -implicitDefEqProofs (disch := omega) only [go_sem, e0, e5, e6, e7, e8, e16, m5, m6, m7, m8, e17, e18, g0, g1]
          refine Jaa c6 ?_
          simp -implicitDefEqProofs (disch := omega) only [go_sem, e0, e5, e6, e7, e8, e16, m5, m6, m7, m8, e17, e18, g0, g1, results76]; try rfl
        | some s =>
          simp -implicitDefEqProofs (disch := omega) only [go_sem, e0, e5, e6, e7, e8, e16, m5, m6, m7, m8, e17, e18, g0, g1]
          refine Jaa c6 ?_
          simp -implicitDefEqProofs (disch := omega) only [go_sem, e0, e5, e6, e7, e8, e16, m5, m6, m7, m8, e17, e18, g0, g1]
          refine Jaa (Jfk s) ?_
          simp -implicitDefEqProofs (disch := omega) only [go_sem, e0, e5, e6, e7, e8, e16, m5, m6, m7, m8, e17, e18, g0, g1, results76]; try rfl
abbrev bi3 (w : (Int × Int) × Int) : AV := .tup [WNP w.1, I w.2, I 0]
theorem Jcc (a b : Ck) (l : Lg) (key : ByteArray) (p : Pt) (hl : legF l = true) (hp : PtOK p) (ha : a.r.length <= 9223372036854775807) (hb : b.r.length <= 9223372036854775807) : Ev prog 30 [CKP a, CKP b, LGP l, Str key, PTP p] (bi3 (Jci (evF key p) a b l)) := by
  have c1 := Jgb l; rw [hl] at c1; have c2 := Jk4 key p hp; have c3 := Jje (evF key p) a b l hl ha hb
  obtain ⟨N, hN⟩ := JeP (evF key p)
  rw [hN] at c2 c3; generalize Jci (evF key p) a b l = W at *; generalize evF key p = L at *; generalize Jb4 key p = g at *
  obtain ⟨⟨w1, w2⟩, w3⟩ := W
  refine EV func30 ?_
  simp -implicitDefEqProofs (disch := omega) only [go_sem, ntmps30]
  refine Jaa c1 ?_
  simp -implicitDefEqProofs (disch := omega) only [go_sem]
  refine Jaa c2 ?_
  simp -implicitDefEqProofs (disch := omega) only [go_sem]
  refine Jaa c3 ?_
  simp -implicitDefEqProofs (disch := omega) only [go_sem, results30]
def eqR (y x : Rd) : Bool := y.l == x.l && (y.a == x.a && y.b == x.b)
theorem Joj {y x : Rd} : eqR y x = true ↔ y = x := by
  unfold eqR; obtain ⟨a, b, c⟩ := y; obtain ⟨d, e, f⟩ := x
  simp
def hasR (l : List Rd) (x : Rd) : Bool := l.any fun y => eqR y x
theorem JlN {l : List Rd} {x : Rd} : hasR l x = true ↔ x ∈ l := by
  unfold hasR; rw [L1u]
  exact ⟨fun ⟨y, h1, h2⟩ => Joj.1 h2 ▸ h1, fun h => ⟨x, h, Joj.2 rfl⟩⟩
def allR (a b : Ck) : Bool := a.r.all (hasR b.r)
theorem Jqr {a b : Ck} : allR a b = true ↔ ∀ x ∈ a.r, x ∈ b.r := by
  unfold allR; rw [L0b]
  exact ⟨fun h x hx => JlN.1 (h x hx), fun h x hx => JlN.2 (h x hx)⟩
set_option maxHeartbeats 1000000 in
theorem Jqs (a b : Ck) (ha : a.r.length <= 9223372036854775807) (hb : b.r.length <= 9223372036854775807) : Ev prog 31 [CKP a, CKP b] (B (allR a b)) := by
  obtain ⟨ad, l⟩ := a; obtain ⟨bd, m⟩ := b
  obtain ⟨z, hz⟩ : ∃ z, allR ⟨ad, l⟩ ⟨bd, m⟩ = z := ⟨_, rfl⟩
  have hz0 : z = (l.drop 0).all (hasR m) := hz.symm
  rw [hz]; clear hz
  simp only at *
  refine EV func31 ?_
  simp -implicitDefEqProofs (disch := omega) only [go_sem, ntmps31]
  refine Jag (fun k E σ => ∃ i : Nat, i + k = l.length /\ z = (l.drop i).all (hasR m) /\ E 2 = .ptr 67108896 2 0 0 /\ E 3 = .ptr 67108912 2 0 0 /\ E 5 = I i /\ σ 67108896 = some ⟨58, 2, [.agg [I ad, RDS l]]⟩ /\ σ 67108912 = some ⟨58, 2, [.agg [I bd, RDS m]]⟩) l.length ⟨0, by omega, hz0, ?_⟩ ?_
  . simp -implicitDefEqProofs (disch := omega) only [go_sem]; try rfl
  rintro k E σ ⟨i, hk, hx, e2, e3, e5, m2, m3⟩
  simp -implicitDefEqProofs (disch := omega) only [go_sem, e2, e3, e5, m2, m3]
  refine Jab (fun hc => ?_) (fun hc => ?_)
  . have hi : i < l.length := by omega
    have hdec : l.length - (i + 1) < k /\ i + 1 + (l.length - (i + 1)) = l.length := by omega
    rw [JaU l i hi, L1D] at hx
    have hh0 : hasR m (gd l i) = (false || (m.drop 0).any fun y => eqR y (gd l i)) := rfl
    simp -implicitDefEqProofs (disch := omega) only [go_sem, e2, e3, e5, m2, m3]
    refine Jag (fun k E σ => ∃ (j : Nat) (acc : Bool), j + k = m.length /\ hasR m (gd l i) = (acc || (m.drop j).any fun y => eqR y (gd l i)) /\ E 6 = B acc /\ E 7 = I j /\ E 2 = .ptr 67108896 2 0 0 /\ E 3 = .ptr 67108912 2 0 0 /\ E 5 = I i /\ σ 67108896 = some ⟨58, 2, [.agg [I ad, RDS l]]⟩ /\ σ 67108912 = some ⟨58, 2, [.agg [I bd, RDS m]]⟩) m.length ⟨0, false, by omega, hh0, ?_⟩ ?_
    . simp -implicitDefEqProofs (disch := omega) only [go_sem, e2, e3, e5, m2, m3]; try rfl
    clear e2 e3 e5 m2 m3 E σ
    rintro k' E σ ⟨j, acc, hk', hy, e6, e7, e2, e3, e5, m2, m3⟩
    simp -implicitDefEqProofs (disch := omega) only [go_sem, e2, e3, e5, e6, e7, m2, m3]
    refine Jab (fun hc2 => ?_) (fun hc2 => ?_)
    . have hj : j < m.length := by omega
      have hdec2 : m.length - (j + 1) < k' /\ j + 1 + (m.length - (j + 1)) = m.length := by omega
      rw [JaU m j hj, List.any_cons, <- Bool.or_assoc] at hy
      cases acc with
      | true =>
        simp -implicitDefEqProofs (disch := omega) only [go_sem, e2, e3, e5, e6, e7, m2, m3]
        refine Jae (m.length - (j + 1)) hdec2.1 ⟨j + 1, true, hdec2.2, hy, ?_⟩
        simp -implicitDefEqProofs (disch := omega) only [go_sem, e2, e3, e5, e6, e7, m2, m3]; try rfl
      | false =>
        simp -implicitDefEqProofs (disch := omega) only [go_sem, e2, e3, e5, e6, e7, m2, m3]; rw [L1y] at hy
        refine Jae (m.length - (j + 1)) hdec2.1 ⟨j + 1, eqR (gd m j) (gd l i), hdec2.2, hy, ?_⟩
        simp -implicitDefEqProofs (disch := omega) only [go_sem, e2, e3, e5, e6, e7, m2, m3]
        try (unfold eqR; exact ⟨rfl, rfl⟩)
    . obtain rfl : j = m.length := by omega
      rw [L0H, List.any_nil, L11] at hy; rw [hy] at hx
      cases acc with
      | true =>
        rw [L0k] at hx; simp -implicitDefEqProofs (disch := omega) only [go_sem, e2, e3, e5, e6, e7, m2, m3]
        refine Jae (l.length - (i + 1)) hdec.1 ⟨i + 1, hdec.2, hx, ?_⟩
        simp -implicitDefEqProofs (disch := omega) only [go_sem, e2, e3, e5, e6, e7, m2, m3]; try rfl
      | false =>
        rw [L0c] at hx; subst hx; simp -implicitDefEqProofs (disch := omega) only [go_sem, e2, e3, e5, e6, e7, m2, m3, results31]
  . obtain rfl : i = l.length := by omega
    rw [L0H] at hx
    have hx : z = true := hx
    subst hx; simp -implicitDefEqProofs (disch := omega) only [go_sem, e2, e3, e5, m2, m3, results31]
def oneC : Ck := ⟨0, [⟨0, 1000, 1000⟩]⟩
def twoC : Ck := ⟨0, [⟨500, 1000, 1004⟩]⟩
theorem Jx8 : Ev prog 46 [] (CKP oneC) := by
  refine EV func46 ?_
  simp -implicitDefEqProofs (disch := omega) only [go_sem, ntmps46, results46]; try rfl
theorem JyS : Ev prog 47 [] (CKP twoC) := by
  refine EV func47 ?_
  simp -implicitDefEqProofs (disch := omega) only [go_sem, ntmps47, results47]; try rfl
theorem Jqc (a b : Int) : Ev prog 48 [I a, I b] (WNP (a, b)) := by
  refine EV func48 ?_
  simp -implicitDefEqProofs (disch := omega) only [go_sem, ntmps48, results48]
theorem JjQ (l : List Int) (i : Nat) (hl : l.length <= 9223372036854775807) (hi : i <= 1000) : Ev prog 51 [SL l, I i] (I (numF l i)) := by
  have h0 : ((l.length : Int) == 0) = decide (l.length = 0) := by rw [L1i]; simp
  refine EV func51 ?_
  simp -implicitDefEqProofs (disch := omega) only [go_sem, ntmps51]
  refine Jab (fun h => ?_) (fun h => ?_)
  . have hn : l = [] := L0R (by omega)
    have hz : numF l i = 0 := if_pos hn
    rw [hz]; simp -implicitDefEqProofs (disch := omega) only [go_sem, results51]
  . have hn : l ≠ [] := fun e => h (by rw [e]; rfl)
    have hz : numF l i = gd l (i % l.length) := if_neg hn
    rw [hz]
    have hm : ((i : Int)).tmod l.length = ((i % l.length : Nat) : Int) := by rw [L12 (by omega)]; omega
    have hlt : i % l.length < l.length := L1e _ (by omega)
    generalize i % l.length = j at *; simp -implicitDefEqProofs (disch := omega) only [go_sem, hm, results51]
theorem JlS : Ev prog 49 [] (Str (keyF 0)) := by
  have c := JoW 0 (by omega)
  refine EV func49 ?_
  simp -implicitDefEqProofs (disch := omega) only [go_sem, ntmps49]
  refine Jaa c ?_
  simp -implicitDefEqProofs (disch := omega) only [go_sem, results49]
theorem JtE {P : Program} {f : FuncId} {args : List AV} {cs cs' : List AV} (h : Ev P f args (.agg cs)) (ha : (AV.agg cs).asIf (.agg cs')) : Ev P f args (.agg cs') := by
  intro args' r0 he
  obtain ⟨rfl, rfl⟩ := he
  obtain ⟨h1, h2⟩ := h args' _ ⟨rfl, rfl⟩
  refine ⟨h1, fun w Im vs hl hg ha' => ?_⟩
  refine (h2 w Im vs hl hg ha').mono fun ex w' hq => ?_
  obtain ⟨y, rfl, hx, Im', i1, i2, ob, ⟨rfl, hr⟩, hF⟩ := hq
  exact ⟨_, rfl, hx, Im', i1, i2, none, ⟨rfl, ha _ _ _ hr⟩, hF⟩
abbrev HPS (l : List (Int × Int)) : AV := .sl 2 (l.map fun h => .agg [I h.1, I h.2])
abbrev CRS (l : List Cr) : AV := .sl 4 (l.map CRP)
abbrev QP (q : Q4) : AV := .agg [I q.a, I q.b, I q.c, I q.d]
abbrev QL (x : List Q4) : AV := .sl 4 (x.map QP)
abbrev NMP (x : Nm) : AV := .agg [HPS x.hops, QTS x.legs, CRS x.crs, SL x.bases, QL x.rates, SL x.offs, SL x.wit]
theorem Jr4 : (AV.agg [I 0, I 0, .v (.slice none 0 0), .v (.slice none 0 0)]).asIf (CRP ⟨0, 0, [], []⟩) := by
  intro w Im y h
  cases h with
  | agg _ ys hl h1 h2 =>
    refine .agg _ ys hl h1 fun j c y hc hy => ?_
    match j with
    | 0 => exact h2 0 c y hc hy
    | 1 => exact h2 1 c y hc hy
    | 2 =>
      have := h2 2 _ y rfl hy
      cases hc
      cases this
      exact .slnil ..
    | 3 =>
      have := h2 3 _ y rfl hy
      cases hc
      cases this
      exact .slnil ..
    | j + 4 => simp at hc
section
variable (p : Nat -> Bool) (l : List Cr)
@[go_sem] theorem JvQ : AV.namesL p (l.map CRP) = false := Jal p l CRP fun _ => rfl
@[go_sem] theorem Jwv : JbS 4 (l.map CRP) = true := JaI 4 l CRP fun _ => ⟨rfl, rfl⟩
end
theorem Jgz (x : Nm) (c : Nat) (hl : x.crs.length <= 9223372036854775807) (hc : c <= 1000) : Ev prog 50 [NMP x, I c] (CRP (crsF x c)) := by
  have h0 : ((x.crs.length : Int) == 0) = decide (x.crs.length = 0) := by rw [L1i]; simp
  by_cases hn : x.crs = []
  . have hz : crsF x c = ⟨0, 0, [], []⟩ := if_pos hn
    rw [hz]
    refine JtE ?_ Jr4
    obtain ⟨x1, x2, x3, x4, x5, x6, x7⟩ := x
    simp only at *
    subst hn
    refine EV func50 ?_
    simp -implicitDefEqProofs (disch := omega) only [go_sem, ntmps50, L0C, L0z]
    refine Jab (fun h => ?_) (fun h => absurd rfl h)
    simp -implicitDefEqProofs (disch := omega) only [go_sem, results50]
  . have hz : crsF x c = gd x.crs (c % x.crs.length) := if_neg hn
    have hnl : 0 < x.crs.length := L17.2 hn
    rw [hz]; obtain ⟨x1, x2, x3, x4, x5, x6, x7⟩ := x
    simp only at *
    have hm : ((c : Int)).tmod x3.length = ((c % x3.length : Nat) : Int) := by rw [L12 (by omega)]; omega
    have hlt : c % x3.length < x3.length := L1e _ hnl
    generalize c % x3.length = j at *
    refine EV func50 ?_
    simp -implicitDefEqProofs (disch := omega) only [go_sem, ntmps50]
    refine Jab (fun h => absurd h (by omega)) (fun h => ?_)
    simp -implicitDefEqProofs (disch := omega) only [go_sem, hm, results50]
theorem Jp7 (v : Nat) (hv : v <= 100) : Ev prog 45 [I v] (Str (updS v)) := by
  have hw8 : IntKind.u8.wrap (65 + (v : Int)) = ((65 + v : Nat) : Int) := by simp [IntKind.wrap, IntKind.bits, IntKind.signed]; omega
  have hs : strOfNums [((65 + v : Nat) : Int)] = ⟨#[UInt8.ofNat (65 + v)]⟩ := rfl
  refine EV func45 ?_
  simp -implicitDefEqProofs (disch := omega) only [go_sem, ntmps45, hw8]
  refine Jeb [((65 + v : Nat) : Int)] (by simp -implicitDefEqProofs (disch := omega) only [go_sem]; try rfl) (by intro b; simp -implicitDefEqProofs (disch := omega) only [go_sem]; intro e; cases e) (e := 5) rfl rfl rfl ?_
  rw [hs]; simp -implicitDefEqProofs (disch := omega) only [go_sem, results45, L0Y, L0f, L0z, L0q]; try rfl
def Q4ok (q : Q4) : Prop := R64 q.a /\ R64 q.b /\ R64 q.c /\ R64 q.d
section
variable (p : Nat -> Bool) (l : List Q4)
@[go_sem] theorem JxQ : AV.namesL p (l.map QP) = false := Jal p l QP fun _ => rfl
@[go_sem] theorem JyY : JbS 4 (l.map QP) = true := JaI 4 l QP fun _ => ⟨rfl, rfl⟩
end
set_option maxHeartbeats 1000000 in
theorem Jkh (b : Int) (x : List Q4) (hb : R64 b) (hx : ∀ q ∈ x, Q4ok q) (hn : x.length <= 9223372036854775807) : Ev prog 33 [I b, QL x] (TF (tfQ b x)) := by
  have p0 := Jah (c := b) (n := 2000) (by omega)
  have e0 := JaE b 2000 hb (by omega)
  have hm : tfQ b x = ⟨(x.take 4).map JfE, Jad b 2000⟩ := rfl
  rw [hm]; clear hm
  obtain ⟨Z, hZ⟩ : ∃ Z, (x.take 4).map JfE = Z := ⟨_, rfl⟩
  rw [hZ]; generalize Jad b 2000 = pb at *
  refine EW [2, 7] func33 ?_
  simp -implicitDefEqProofs (disch := omega) only [go_sem, ntmps33]
  refine Jaa e0 ?_
  simp -implicitDefEqProofs (disch := omega) only [go_sem]
  refine Jbp 71303248 71303249 0 0 159 4 (k := ⟨96, 2, [.agg [.v (.slice none 0 0), I pb]]⟩) (el := .agg [.v (.slice none 0 0), I pb]) (by simp -implicitDefEqProofs (disch := omega) only [go_sem]) (by decide) rfl rfl (by simp) (by simp -implicitDefEqProofs (disch := omega) only [go_sem]) rfl ?_
  refine Je6 Plain.mono ?_
  simp -implicitDefEqProofs (disch := omega) only [go_sem]
  refine Jag (fun n E σ => ∃ i : Nat, i + n = 4 /\ i <= x.length /\ E 1 = QL x /\ E 4 = .ptr 71303232 2 0 0 /\ E 5 = .ptr 71303248 2 0 0 /\ E 6 = I i /\ σ 71303232 = some ⟨96, 2, [.agg [.v (.slice none 0 0), I 0]]⟩ /\ σ 71303248 = some ⟨96, 2, [.agg [.own 71303249 4 0 i, I pb]]⟩ /\ σ 71303249 = some ⟨159, 4, ((x.take i).map JfE).map TP⟩) 4 ⟨0, by omega, by omega, ?_⟩ ?_
  . simp -implicitDefEqProofs (disch := omega) only [go_sem]; try rfl
  rintro n E σ ⟨i, hi, hix, e1, e4, e5, e6, m4, m5, mr⟩
  have htl : ((x.take i).map JfE).length = i := by simp; omega
  have fin : i = 4 \/ i = x.length -> Z = (x.take i).map JfE := fun h => by
    rw [<- hZ]
    rcases h with rfl | rfl
    . rfl
    . rw [L0d, L09 (by omega)]
  simp -implicitDefEqProofs (disch := omega) only [go_sem, e1, e4, e5, e6, m4, m5, mr, false_and, and_self]
  refine Jab (fun hc => ?_) (fun hc => ?_)
  . simp -implicitDefEqProofs (disch := omega) only [go_sem, e1, e4, e5, e6, m4, m5, mr, false_and, and_self]
    refine Jab (fun hc2 => ?_) (fun hc2 => ?_)
    . obtain ⟨q1, q2, q3, q4⟩ := hx _ (Jas x i (by omega))
      have a1 := Jah (c := (gd x i).a) (n := 127) (by omega)
      have a2 := Jah (c := (gd x i).b) (n := 48) (by omega)
      have a5 := Jah (c := (gd x i).d) (n := 2000) (by omega)
      have a6 := Jah (c := (gd x i).c) (n := 86400 - 1800 * Jad (gd x i).b 48) (by omega)
      have c1 := JaE (gd x i).a 127 q1 (by omega)
      have c2 := JaE (gd x i).b 48 q2 (by omega)
      have c3 := JaE (gd x i).d 2000 q4 (by omega)
      have c4 := JaE (gd x i).c (86400 - 1800 * Jad (gd x i).b 48) q3 (by omega)
      have htk : (x.take (i + 1)).map JfE = (x.take i).map JfE ++ [JfE (gd x i)] := by rw [L1b, Jbj x i (by omega)]; simp
      have hr : JfE (gd x i) = ⟨1 + Jad (gd x i).a 127, 1800 * Jad (gd x i).b 48, 1800 * Jad (gd x i).b 48 + 1 + Jad (gd x i).c (86400 - 1800 * Jad (gd x i).b 48), Jad (gd x i).d 2000⟩ := rfl
      generalize (x.take i).map JfE = q at *; generalize JfE (gd x i) = r at *; generalize Jad (gd x i).a 127 = u1 at *; generalize Jad (gd x i).b 48 = u2 at *; generalize Jad (gd x i).d 2000 = u5 at *; generalize Jad (gd x i).c (86400 - 1800 * u2) = u6 at *
      have hqt : q.take i = q := L09 (by omega)
      simp -implicitDefEqProofs (disch := omega) only [go_sem, e1, e4, e5, e6, m4, m5, mr, false_and, and_self]
      refine Jaa c2 ?_
      simp -implicitDefEqProofs (disch := omega) only [go_sem, e1, e4, e5, e6, m4, m5, mr, false_and, and_self]
      refine Jaa c1 ?_
      simp -implicitDefEqProofs (disch := omega) only [go_sem, e1, e4, e5, e6, m4, m5, mr, false_and, and_self]
      refine Jaa c4 ?_
      simp -implicitDefEqProofs (disch := omega) only [go_sem, e1, e4, e5, e6, m4, m5, mr, false_and, and_self]
      refine Jaa c3 ?_
      simp -implicitDefEqProofs (disch := omega) only [go_sem, e1, e4, e5, e6, m4, m5, mr, htl, hqt, false_and, and_self]
      refine Jae (4 - (i + 1)) (by omega) ⟨i + 1, by omega, by omega, ?_⟩
      rw [htk, hr]; simp -implicitDefEqProofs (disch := omega) only [go_sem, e1, e4, e5, e6, m4, m5, mr, htl, hqt, false_and, and_self]; try simp
    . have hf := fin (.inl (by omega))
      rw [<- hf] at mr htl
      have hqt : Z.take i = Z := L09 (by omega)
      simp -implicitDefEqProofs (disch := omega) only [go_sem, e1, e4, e5, e6, m4, m5, mr, false_and, and_self]
      refine JaK Plain.mono [71303248, 71303249] ?_
      simp -implicitDefEqProofs (disch := omega) only [go_sem, e1, e4, e5, e6, m4, m5, mr, hqt, L05, htl]; simp -implicitDefEqProofs (disch := omega) only [go_sem, e1, e4, e5, e6, m4, m5, mr, hqt, L05, htl, results33]
  . have hf := fin (.inr (by omega))
    rw [<- hf] at mr htl
    have hqt : Z.take i = Z := L09 (by omega)
    simp -implicitDefEqProofs (disch := omega) only [go_sem, e1, e4, e5, e6, m4, m5, mr, false_and, and_self]
    refine JaK Plain.mono [71303248, 71303249] ?_
    simp -implicitDefEqProofs (disch := omega) only [go_sem, e1, e4, e5, e6, m4, m5, mr, hqt, L05, htl]; simp -implicitDefEqProofs (disch := omega) only [go_sem, e1, e4, e5, e6, m4, m5, mr, hqt, L05, htl, results33]
end Go.Proofs.YtnpbhgeffapojaaGreatDoor

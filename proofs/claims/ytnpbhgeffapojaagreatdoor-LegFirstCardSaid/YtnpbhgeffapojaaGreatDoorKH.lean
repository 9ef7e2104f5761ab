/- What is shown, who is first, what is billed -/
import Derived.Test.YtnpbhgeffapojaaGreatDoorKG
set_option linter.all false
set_option maxRecDepth 100000
namespace Go.Proofs.YtnpbhgeffapojaaGreatDoor
open Go.Proofs.Tryz
open Go.Vai Go Go.Proofs
def sigB (key : ByteArray) (r : Rg) (n : Int) : Bool := decide (key.size = 32) && (regB r && decide (0 <= n /\ n <= r.l.length))
theorem JdR {key : ByteArray} {r : Rg} {n : Int} : sigB key r n = true ↔ key.size = 32 /\ regB r = true /\ 0 <= n /\ n <= r.l.length := by
 unfold sigB; simp only [L00, decide_eq_true_iff]
theorem JdC {r : Rg} (h : regB r = true) {l : List ByteArray} (b : ∀ s ∈ l, s ∈ r.l) : ∀ s ∈ l, s.size <= 1000000 := fun s c => by
 have := (Jbu.1 h).2.2 s (b s c); omega
theorem JfY (key : ByteArray) (r : Rg) (n : Nat) : HDP (JeC key r n) = .agg [I r.c, I n, Str (Jau (r.l.take n)), Str (JdW key ⟨r.c, n, Jau (r.l.take n), default⟩)] := rfl
theorem Jp3 : Str (default : ByteArray) = Str ⟨#[]⟩ := rfl
set_option maxHeartbeats 1000000 in
theorem JuP (key : ByteArray) (r : Rg) (n : Nat) (h : sigB key r n = true) : Ev prog 77 [Str key, RGP r, I n] (.tup [HDP (JeC key r n), I 0]) := by
 obtain ⟨m, b, t, u⟩ := JdR.1 h
 have o := Jbu.1 b; have f := JiD key
 have g := JhV r (by omega)
 have i := JaR n 0 r.l.length
 have q : (r.l.take n).length = n := by rw [L03]; omega
 have k := Jlg (r.l.take n) (by omega) (JdC b fun s p => L0H p)
 have j := JpP key ⟨r.c, n, Jau (r.l.take n), default⟩ (by omega) o.1 (by simp only; omega) (by simp only; rw [Jca]; omega)
 rw [decide_eq_true m] at f; rw [b] at g
 rw [decide_eq_true (by omega)] at i
 rw [JfY]; simp only [HDP, Jp3] at j; obtain ⟨c, l⟩ := r
 simp only at *
 generalize JdW key ⟨c, n, Jau (l.take n), default⟩ = S at *; generalize Jau (l.take n) = R at *
 have d : ((n : Int)).toNat = n := by omega
 refine EV func77 ?_
 simp -implicitDefEqProofs (disch := omega) only [go_sem, ntmps77]
 refine Jaa f ?_
 simp -implicitDefEqProofs (disch := omega) only [go_sem]
 refine Jaa g ?_
 simp -implicitDefEqProofs (disch := omega) only [go_sem]
 refine Jaa i ?_
 simp -implicitDefEqProofs (disch := omega) only [go_sem, d]
 refine Jaa k ?_
 simp -implicitDefEqProofs (disch := omega) only [go_sem]
 refine Jaa j ?_
 simp -implicitDefEqProofs (disch := omega) only [go_sem, false_and, results77]
theorem JrU (key : ByteArray) (r : Rg) (n : Int) (k : r.l.length <= 9223372036854775807) (h : sigB key r n = false) : Ev prog 77 [Str key, RGP r, I n] (.tup [HDP default, I 180]) := by
 have f := JiD key; have g := JhV r k; have i := JaR n 0 r.l.length; unfold sigB at h; obtain ⟨c, l⟩ := r
 simp only at *
 generalize decide (key.size = 32) = b at *; generalize regB ⟨c, l⟩ = d at *; generalize decide (0 <= n /\ n <= l.length) = b3 at *
 have j : HDP default = .agg [I 0, I 0, .v (.string ByteArray.empty), .v (.string ByteArray.empty)] := rfl
 rw [j]
 refine EV func77 ?_
 simp -implicitDefEqProofs (disch := omega) only [go_sem, ntmps77]
 refine Jaa f ?_
 cases b
 . simp -implicitDefEqProofs (disch := omega) only [go_sem, results77]
 simp -implicitDefEqProofs (disch := omega) only [go_sem]
 refine Jaa g ?_
 cases d
 . simp -implicitDefEqProofs (disch := omega) only [go_sem, results77]
 cases b3
 . simp -implicitDefEqProofs (disch := omega) only [go_sem]
   refine Jaa i ?_
   simp -implicitDefEqProofs (disch := omega) only [go_sem, results77]
 . cases h
set_option maxHeartbeats 1000000 in
theorem JrT (key : ByteArray) (r : Rg) (n : Nat) (h : sigB key r n = true) : Ev prog 140 [Str key, RGP r, I n] (.tup [HDP (JeC key r n), I 0]) := by
 obtain ⟨q, b, t, u⟩ := JdR.1 h
 have m := Jbu.1 b
 have g := Jg3 r (by omega)
 have i := JiB n 0 r.l.length
 have p : (r.l.take n).length = n := by rw [L03]; omega
 have k := JeR _ (r.l.take n) (L09 _) (by omega) (JdC b fun s o => L0H o)
 have j := JrR key ⟨r.c, n, Jau (r.l.take n), default⟩ (by omega) m.1 (by simp only; omega) (by simp only; rw [Jca]; omega)
 rw [b] at g
 rw [decide_eq_true (by omega)] at i
 rw [JfY]; simp only [HDP, Jp3] at j; obtain ⟨c, l⟩ := r
 simp only at *
 generalize JdW key ⟨c, n, Jau (l.take n), default⟩ = S at *; generalize Jau (l.take n) = R at *
 have f : ((n : Int)).toNat = n := by omega
 have d : ((key.size : Int) != 32) = false := by simp; omega
 refine EV func140 ?_
 simp -implicitDefEqProofs (disch := omega) only [go_sem, ntmps140, d]
 refine Jaa g ?_
 simp -implicitDefEqProofs (disch := omega) only [go_sem]
 refine Jaa i ?_
 simp -implicitDefEqProofs (disch := omega) only [go_sem, f]
 refine Jaa k ?_
 simp -implicitDefEqProofs (disch := omega) only [go_sem]
 refine Jaa j ?_
 simp -implicitDefEqProofs (disch := omega) only [go_sem, false_and, results140]
theorem JpR (key : ByteArray) (r : Rg) (n : Int) (m : r.l.length <= 9223372036854775807) (h : sigB key r n = false) : Ev prog 140 [Str key, RGP r, I n] (.tup [HDP default, I 180]) := by
 have g := Jg3 r m; have i := JiB n 0 r.l.length; unfold sigB at h; obtain ⟨c, l⟩ := r
 simp only at *
 have b : ((key.size : Int) != 32) = !decide (key.size = 32) := by rw [L1k]; simp; omega
 generalize j : decide (key.size = 32) = d at *; generalize regB ⟨c, l⟩ = f at *; generalize decide (0 <= n /\ n <= l.length) = b3 at *
 have k : HDP default = .agg [I 0, I 0, .v (.string ByteArray.empty), .v (.string ByteArray.empty)] := rfl
 rw [k]
 refine EV func140 ?_
 cases d
 . simp -implicitDefEqProofs (disch := omega) only [go_sem, ntmps140, b, results140, Bool.not_false]
 simp -implicitDefEqProofs (disch := omega) only [go_sem, ntmps140, b, Bool.not_true]
 refine Jaa g ?_
 cases f
 . simp -implicitDefEqProofs (disch := omega) only [go_sem, results140]
 cases b3
 . simp -implicitDefEqProofs (disch := omega) only [go_sem]
   refine Jaa i ?_
   simp -implicitDefEqProofs (disch := omega) only [go_sem, results140]
 . cases h
abbrev ITP (x : It) : AV := .agg [I x.i, Str x.e, SLs x.p]
abbrev ITS (l : List It) : AV := .sl 3 (l.map ITP)
abbrev PTP (p : Pt) : AV := .agg [I p.h.c, I p.h.n, Str p.h.r, Str p.h.s, ITS p.l]
abbrev zP : AV := .agg [I 0, I 0, .v (.string ByteArray.empty), .v (.string ByteArray.empty), .v (.slice none 0 0)]
abbrev shV (o : Option Pt) : AV := match o with
 | some p => .tup [PTP p, I 0]
 | none => .tup [zP, I 180]
section
variable (p : Nat -> Bool) (l : List It)
@[go_sem] theorem JvZ : AV.namesL p (l.map ITP) = false := Jal p l ITP fun _ => rfl
@[go_sem] theorem JwF : JbA 3 (l.map ITP) = true := JaG 3 l ITP fun _ => ⟨rfl, rfl⟩
end
theorem Jkb (key : ByteArray) (r : Rg) (n : Int) (l : List Int) : JdX key r n l = if sigB key r n = true then (if ascN n.toNat none l = true then some ⟨JeC key r n.toNat, l.map fun i => JbD r n.toNat i.toNat⟩ else none) else none := by
 unfold JdX
 by_cases h : sigB key r n = true
 . rw [if_pos h]
   obtain ⟨c, d, f⟩ := JdR.1 h
   by_cases ha : ascN n.toNat none l = true
   . rw [if_pos ha, if_pos ⟨c, d, f, ha⟩]
   . rw [if_neg ha, if_neg (fun b => ha b.2.2.2)]
 . rw [if_neg h, if_neg (fun b => h (JdR.2 ⟨b.1, b.2.1, b.2.2.1⟩))]
def prvO (l : List Int) (i : Nat) : Option Int := if i = 0 then none else some (gd l (i - 1))
theorem Jjf (n : Nat) (l : List Int) (i : Nat) (h : i < l.length) : ascN n (prvO l i) (l.drop i) = (decide ((0 <= gd l i /\ gd l i < n) /\ (0 < i -> gd l (i - 1) < gd l i)) && ascN n (prvO l (i + 1)) (l.drop (i + 1))) := by
 rw [JaY l i h, ascN]
 have c : prvO l (i + 1) = some (gd l i) := by unfold prvO; rw [if_neg (by omega), L10]
 rw [c]
 congr 1
 rw [decide_eq_decide]
 refine and_congr Iff.rfl ?_
 unfold prvO
 by_cases h0 : i = 0
 . subst h0; simp
 . rw [if_neg h0]
   exact ⟨fun b _ => b _ rfl, fun b q d => by cases d; exact b (by omega)⟩
def itV (r : Rg) (n : Nat) (l : List Int) (i : Nat) : List AV := (l.take i).map fun j => ITP (JbD r n j.toNat)
theorem JoQ (r : Rg) (n : Nat) (l : List Int) (i : Nat) (h : i <= l.length) : (itV r n l i).length = i := by
 unfold itV; rw [L04, L03]; omega
theorem JjI (r : Rg) (n : Nat) (l : List Int) (p : Nat -> Bool) (i : Nat) : AV.namesL p (itV r n l i) = false := Jal p (l.take i) (fun j => ITP (JbD r n j.toNat)) fun _ => rfl
theorem JlX (r : Rg) (n : Nat) (l : List Int) : itV r n l 0 = [] := rfl
theorem Jp6 {T : Type} [Inhabited T] (l : List T) (i : Nat) (h : i < l.length) : l.take (i + 1) = l.take i ++ [gd l i] := by rw [L1c, Ja2 l i h]; rfl
theorem JlW (r : Rg) (n : Nat) (l : List Int) (i : Nat) (h : i < l.length) : itV r n l (i + 1) = itV r n l i ++ [.agg [I (gd l i).toNat, Str (gd r.l (gd l i).toNat), SLs (Jbd (r.l.take n) (gd l i).toNat).reverse]] := by
 unfold itV; rw [Jp6 l i h, L0Z]; rfl
theorem JoP (r : Rg) (n : Nat) (l : List Int) : itV r n l l.length = (l.map fun j => JbD r n j.toNat).map ITP := by
 unfold itV; rw [L0c, L17]; rfl
def shI (c : Int) (L : List ByteArray) (n : Nat) (R S : ByteArray) (l : List Int) (i : Nat) (P : List AV) (E : Env) (σ : Jac) : Prop :=
 E 2 = I n /\ E 3 = SL l /\ E 5 = .ptr 69206096 2 0 0 /\ E 8 = .ptr 69206144 5 0 0 /\ E 12 = .ptr 69206208 5 0 0 /\ E 30 = SL l /\ E 31 = I l.length /\ E 32 = I i /\
  σ 69206096 = some ⟨90, 2, [.agg [I c, SLs L]]⟩ /\ σ 69206144 = some ⟨49, 5, [zP]⟩ /\ σ 69206208 = some ⟨49, 5, [.agg [I c, I n, Str R, Str S, .own 69206209 3 0 i]]⟩ /\ σ 69206209 = some ⟨134, 3, P⟩
set_option maxHeartbeats 2000000 in
theorem JiW (key : ByteArray) (r : Rg) (n : Int) (l : List Int) (hrl : r.l.length <= 9223372036854775807) (hl : l.length <= 9223372036854775807) (hR : ∀ x ∈ l, R64 x) : Ev prog 32 [Str key, RGP r, I n, SL l] (shV (JdX key r n l)) := by
  rw [Jkb]
  cases hs : sigB key r n with
  | false =>
    have c1 := JrU key r n hrl hs
    have hd : HDP default = .agg [I 0, I 0, .v (.string ByteArray.empty), .v (.string ByteArray.empty)] := rfl
    rw [hd] at c1
    rw [if_neg (by decide)]
    refine EW [5, 13] func32 ?_
    simp -implicitDefEqProofs (disch := omega) only [go_sem, ntmps32]
    refine Jaa c1 ?_
    simp -implicitDefEqProofs (disch := omega) only [go_sem, results32]
  | true =>
  rw [if_pos rfl]
  obtain ⟨h1, h2, h3, h4⟩ := JdR.1 hs
  obtain ⟨m, rfl⟩ := L1X h3
  have hn : (m : Int).toNat = m := by omega
  rw [hn]; have c1 := JuP key r m hs; have hr := Jbu.1 h2
  have htl : (r.l.take m).length = m := by rw [L03]; omega
  have c2 := fun (J : Nat) (hJ : J < m) => JrG (r.l.take m) J (by omega) (JdC h2 fun s hs => L0H hs) (by omega)
  have c3 := fun (J : Int) (hJ : ¬ (0 <= J /\ J < m)) => Jpv (r.l.take m) J (by omega) (by omega)
  have hst := Jjf m l; have hvl := JoQ r m l; have hvn := JjI r m l; have hv0 := JlX r m l; have hvs := JlW r m l; have hva := JoP r m l
  obtain ⟨z, hz⟩ : ∃ z, ascN m none l = z := ⟨_, rfl⟩
  rw [hz]
  have hz0 : z = ascN m (prvO l 0) (l.drop 0) := hz.symm
  have hfin : (if z = true then some (⟨JeC key r m, l.map fun i => JbD r m i.toNat⟩ : Pt) else none) = if z = true then some (⟨⟨r.c, m, Jau (r.l.take m), JdW key ⟨r.c, m, Jau (r.l.take m), default⟩⟩, l.map fun i => JbD r m i.toNat⟩ : Pt) else none := rfl
  rw [hfin]; rw [JfY] at c1
  generalize hF : (l.map fun i => JbD r m i.toNat) = F at *
  generalize JdW key ⟨r.c, m, Jau (r.l.take m), default⟩ = S at *; generalize Jau (r.l.take m) = R at *; generalize itV r m l = V at *; obtain ⟨c, L⟩ := r
  simp only at *
  generalize Jbd (L.take m) = Q at *; clear hfin hF hz h2 h1 hs
  refine EW [5, 13] func32 ?_
  simp -implicitDefEqProofs (disch := omega) only [go_sem, ntmps32]
  refine Jaa c1 ?_
  simp -implicitDefEqProofs (disch := omega) only [go_sem]
  refine JaZ 69206208 69206209 0 4 134 3 (k := ⟨49, 5, [.agg [I c, I m, Str R, Str S, .v (.slice none 0 0)]]⟩) (el := .agg [I c, I m, Str R, Str S, .v (.slice none 0 0)]) (by simp -implicitDefEqProofs (disch := omega) only [go_sem]) (by decide) rfl rfl (by simp) (by simp -implicitDefEqProofs (disch := omega) only [go_sem]) rfl ?_
  refine Jds Plain.mono ?_
  simp -implicitDefEqProofs (disch := omega) only [go_sem]
  refine Jag (fun k E σ => ∃ i : Nat, i + k = l.length /\ i <= m /\ (0 < i -> (i : Int) <= gd l (i - 1) + 1 /\ gd l (i - 1) < m) /\ z = ascN m (prvO l i) (l.drop i) /\ shI c L m R S l i (V i) E σ) l.length ⟨0, by omega, by omega, fun h => absurd h (by omega), hz0, ?_⟩ ?_
  . simp -implicitDefEqProofs (disch := omega) only [go_sem, shI, hv0, false_and]; try rfl
  rintro k E σ ⟨i, hk, him, hpr, hx, e2, e3, e5, e8, e12, e30, e31, e32, m5, m8, m12, mP⟩
  simp -implicitDefEqProofs (disch := omega) only [go_sem, e2, e3, e5, e8, e12, e30, e31, e32, m5, m8, m12, mP]
  refine Jab (fun hc => ?_) (fun hc => ?_)
  . have hi : i < l.length := by omega
    have hx1 := hst i hi; rw [hx1] at hx; have hxr := hR _ (Jao l i hi); have hvi := hvs i hi
    have hvl1 := hvl i (by omega)
    simp -implicitDefEqProofs (disch := omega) only [go_sem, e2, e3, e5, e8, e12, e30, e31, e32, m5, m8, m12, mP, hn]
    by_cases hb : 0 <= gd l i /\ gd l i < m
    rotate_left
    . rw [decide_eq_false (fun h => hb h.1), L0d] at hx
      subst hx
      refine Jaa (c3 _ hb) ?_
      simp -implicitDefEqProofs (disch := omega) only [go_sem, e2, e3, e5, e8, e12, e30, e31, e32, m5, m8, m12, mP, results32]
    obtain ⟨J, hJ⟩ := L1X hb.1
    have d1 := c2 J (by omega)
    rw [hJ] at hx hvi hb; rw [L1a] at hvi; rw [hJ]
    refine Jaa d1 ?_
    simp -implicitDefEqProofs (disch := omega) only [go_sem, e2, e3, e5, e8, e12, e30, e31, e32, m5, m8, m12, mP]
    refine Jab (fun h2 => ?_) (fun h2 => ?_)
    . have hj : ((i : Int) - 1).toNat = i - 1 := by omega
      simp -implicitDefEqProofs (disch := omega) only [go_sem, e2, e3, e5, e8, e12, e30, e31, e32, m5, m8, m12, mP, hj]
      refine Jab (fun h5 => ?_) (fun h5 => ?_)
      . rw [decide_eq_false (fun h => by have := h.2 (by omega); omega), L0d] at hx
        subst hx; simp -implicitDefEqProofs (disch := omega) only [go_sem, e2, e3, e5, e8, e12, e30, e31, e32, m5, m8, m12, mP, results32]
      . have hx : z = ascN m (prvO l (i + 1)) (l.drop (i + 1)) := by rw [hx, decide_eq_true (by rw [<- hJ]; constructor <;> omega), L0k]
        have hqt : (V i).take i = V i := L0a (by omega)
        simp -implicitDefEqProofs (disch := omega) only [go_sem, e2, e3, e5, e8, e12, e30, e31, e32, m5, m8, m12, mP, hvl1, hqt, hvn, false_and]
        have hnx : 0 < i + 1 -> ((i + 1 : Nat) : Int) <= gd l (i + 1 - 1) + 1 /\ gd l (i + 1 - 1) < m := fun _ => by
          rw [L10, hJ]
          by_cases h0 : 0 < i
          . have := hpr h0; omega
          . omega
        have him2 : i + 1 <= m := by have := hnx (by omega); rw [L10, hJ] at this; omega
        have hdec : l.length - (i + 1) < k /\ i + 1 + (l.length - (i + 1)) = l.length := by omega
        refine Jad (l.length - (i + 1)) hdec.1 ⟨i + 1, hdec.2, him2, hnx, hx, ?_⟩
        have hvn1 := fun p => hvn p (i + 1)
        rw [hvi] at hvn1; rw [hvi]; simp -implicitDefEqProofs (disch := omega) only [go_sem, shI, e2, e3, e5, e8, e12, e30, e31, e32, m5, m8, m12, mP, hvl1, hqt, hvn, hvn1, false_and]; try rfl
    . have hx : z = ascN m (prvO l (i + 1)) (l.drop (i + 1)) := by rw [hx, decide_eq_true (by rw [<- hJ]; constructor <;> omega), L0k]
      have hqt : (V i).take i = V i := L0a (by omega)
      simp -implicitDefEqProofs (disch := omega) only [go_sem, e2, e3, e5, e8, e12, e30, e31, e32, m5, m8, m12, mP, hvl1, hqt, hvn, false_and]
      have hnx : 0 < i + 1 -> ((i + 1 : Nat) : Int) <= gd l (i + 1 - 1) + 1 /\ gd l (i + 1 - 1) < m := fun _ => by
        rw [L10, hJ]
        by_cases h0 : 0 < i
        . have := hpr h0; omega
        . omega
      have him2 : i + 1 <= m := by have := hnx (by omega); rw [L10, hJ] at this; omega
      have hdec : l.length - (i + 1) < k /\ i + 1 + (l.length - (i + 1)) = l.length := by omega
      refine Jad (l.length - (i + 1)) hdec.1 ⟨i + 1, hdec.2, him2, hnx, hx, ?_⟩
      have hvn1 := fun p => hvn p (i + 1)
      rw [hvi] at hvn1; rw [hvi]; simp -implicitDefEqProofs (disch := omega) only [go_sem, shI, e2, e3, e5, e8, e12, e30, e31, e32, m5, m8, m12, mP, hvl1, hqt, hvn, hvn1, false_and]; try rfl
  . obtain rfl : i = l.length := by omega
    rw [L0K] at hx
    have hx : z = true := hx
    subst hx; rw [hva] at mP
    have hFl : F.length = l.length := by have := hvl l.length (L09 _); rw [hva, L04] at this; exact this
    have hqt : F.take l.length = F := L0a (by omega)
    simp -implicitDefEqProofs (disch := omega) only [go_sem, e2, e3, e5, e8, e12, e30, e31, e32, m5, m8, m12, mP]
    refine Jay Plain.mono [69206208, 69206209] ?_
    simp -implicitDefEqProofs (disch := omega) only [go_sem, e2, e3, e5, e8, e12, e30, e31, e32, m5, m8, m12, mP, hqt, L04, hFl]; simp -implicitDefEqProofs (disch := omega) only [go_sem, e2, e3, e5, e8, e12, e30, e31, e32, m5, m8, m12, mP, hqt, L04, hFl, results32]
theorem Jok {P : Program} {f : FuncId} {args : List AV} {e sz : Nat} {es : List AV} {x : Value} (h : Ev P f args (.tup [.new e sz es, .v x])) : Ev P f args (.tup [.sl sz es, .v x]) := by
 intro l r0 T
 obtain ⟨rfl, rfl⟩ := T
 obtain ⟨k, m⟩ := h l _ ⟨rfl, rfl⟩
 refine ⟨k, fun w Q vs W U o => ?_⟩
 refine (m w Q vs W U o).mono fun ex O X => ?_
 obtain ⟨y, rfl, Z, g, L, M, ys, H, rfl, d, R⟩ := X
 refine ⟨_, rfl, Z, ?_⟩
 match ys, H, d with
 | [y1, y2], [o1, o2], d =>
  obtain ⟨r1, ⟨rfl, N⟩, _⟩ := d
  have I : Jdg w.heap.size g [none, none] := ⟨fun b s => by simp at s, by simp⟩
  rcases r1 with ⟨rfl, rfl, rfl⟩ | ⟨b, D, hz, rfl, rfl, G, J, K, p⟩
  . exact ⟨g, L, M, _, [none, none], rfl, ⟨⟨rfl, .slnil ..⟩, ⟨rfl, N⟩, trivial⟩, I⟩
  . obtain ⟨q, A, t, Y, F⟩ := p
    have s := (R.1 b (by simp)).1
    have E : b < O.heap.size := by
     obtain ⟨I, A, _⟩ := A
     exact (L0i.1 A).1
    refine ⟨fun a => g a \/ a = b, fun a o => .inl (L a o), fun a o => ?_, _, [none, none], rfl, ⟨⟨rfl, ?_⟩, ⟨rfl, ?_⟩, trivial⟩, ⟨fun b s => by simp at s, by simp⟩⟩
    . rcases o with o | rfl
      . exact M a o
      . exact .inr ⟨s, E⟩
    . have u : ∀ (i : Nat) (a : AV) (j : Nat) (c : AV), es[i]? = some a -> a.cells[j]? = some c -> ∃ v, q[i * sz + j]? = some v /\ v.oneCell' = true /\ IRep O (fun a => g a \/ a = b) c v := fun i a j c k m => by
       obtain ⟨v, z, B, C⟩ := F i a j c k m
       exact ⟨v, z, B, C.mono (fun _ h => .inl h) (fun _ _ => rfl)⟩
      refine .sl sz es b 0 D (fun i j => (q[i * sz + j]?).getD undef) (.inr rfl) G t (fun i j V hj => ?_) (fun i a j c k m => ?_)
      . obtain ⟨a, k⟩ : ∃ a, es[i]? = some a := ⟨_, L06 V⟩
        have S := t a (L01 k)
        obtain ⟨c, m⟩ : ∃ c, a.cells[j]? = some c := ⟨_, L06 (by omega)⟩
        obtain ⟨v, z, B, C⟩ := u i a j c k m
        rw [Jbm A, L0n, z]
        exact ⟨rfl, B⟩
      . obtain ⟨v, z, B, C⟩ := u i a j c k m
        simp only [z, Option.getD_some]; exact C
    . exact N.mono (fun _ h => .inl h) (fun _ _ => rfl)
 | [], _, d => exact d.elim
 | [_], [], d => exact d.elim
 | [_], [_], d => exact d.2.elim
 | [_], _ :: _ :: _, d => exact d.2.elim
 | _ :: _ :: _, [], d => exact d.elim
 | _ :: _ :: _, [_], d => exact d.2.elim
 | _ :: _ :: _ :: _, _ :: _ :: _, d => exact d.2.2.elim
 | [_, _], _ :: _ :: _ :: _, d => exact d.2.2.elim
theorem Jdl {T : Type} (g : T -> AV) (h : ∀ x, (g x).dn = false) : ∀ l : List T, AV.dnL (l.map g) = false
 | [] => by simp only [L0G, AV.dnL]
 | x :: l => by simp only [L0q, AV.dnL, h x, Jdl g h l, L12]
theorem JsC (l : List ByteArray) (n : Int) : (AV.tup [.sl 1 (l.map fun s => .v (.string s)), .v (.int .i64 n)]).dn = false := by
 simp only [AV.dn, AV.dnL, Jdl _ (fun x => AV.dn.eq_2 _) l, L12]
def shR (c : Int) (L : List ByteArray) (n : Nat) (R S : ByteArray) (l : List Int) (i : Nat) (P : List AV) (E : Env) (σ : Jac) : Prop :=
 E 2 = I n /\ E 3 = SL l /\ E 5 = .ptr 192938064 2 0 0 /\ E 8 = .ptr 192938112 5 0 0 /\ E 12 = .ptr 192938176 5 0 0 /\ E 13 = I i /\
  σ 192938064 = some ⟨90, 2, [.agg [I c, SLs L]]⟩ /\ σ 192938112 = some ⟨49, 5, [zP]⟩ /\ σ 192938176 = some ⟨49, 5, [.agg [I c, I n, Str R, Str S, .own 192938177 3 0 i]]⟩ /\ σ 192938177 = some ⟨134, 3, P⟩
set_option maxHeartbeats 2000000 in
theorem JrS (key : ByteArray) (r : Rg) (n : Int) (l : List Int) (hrl : r.l.length <= 9223372036854775807) (hl : l.length <= 9223372036854775807) (hR : ∀ x ∈ l, R64 x) : Ev prog 91 [Str key, RGP r, I n, SL l] (shV (JdX key r n l)) := by
  rw [Jkb]
  cases hs : sigB key r n with
  | false =>
    have c1 := JpR key r n hrl hs
    have hd : HDP default = .agg [I 0, I 0, .v (.string ByteArray.empty), .v (.string ByteArray.empty)] := rfl
    rw [hd] at c1
    rw [if_neg (by decide)]
    refine EW [5, 12] func91 ?_
    simp -implicitDefEqProofs (disch := omega) only [go_sem, ntmps91]
    refine Jaa c1 ?_
    simp -implicitDefEqProofs (disch := omega) only [go_sem, results91]
  | true =>
  rw [if_pos rfl]
  obtain ⟨h1, h2, h3, h4⟩ := JdR.1 hs
  obtain ⟨m, rfl⟩ := L1X h3
  have hn : (m : Int).toNat = m := by omega
  rw [hn]; have c1 := JrT key r m hs; have hr := Jbu.1 h2
  have htl : (r.l.take m).length = m := by rw [L03]; omega
  have c2 := fun (J : Nat) (hJ : J < m) => Jok (Jei m (r.l.take m) J (by omega) (by omega) (by omega) (JdC h2 fun s hs => L0H hs))
  have c3 := fun (J : Int) => JiB J 0 (m - 1)
  have hst := Jjf m l; have hvl := JoQ r m l; have hvn := JjI r m l; have hv0 := JlX r m l; have hvs := JlW r m l; have hva := JoP r m l
  obtain ⟨z, hz⟩ : ∃ z, ascN m none l = z := ⟨_, rfl⟩
  rw [hz]
  have hz0 : z = ascN m (prvO l 0) (l.drop 0) := hz.symm
  have hfin : (if z = true then some (⟨JeC key r m, l.map fun i => JbD r m i.toNat⟩ : Pt) else none) = if z = true then some (⟨⟨r.c, m, Jau (r.l.take m), JdW key ⟨r.c, m, Jau (r.l.take m), default⟩⟩, l.map fun i => JbD r m i.toNat⟩ : Pt) else none := rfl
  rw [hfin]; rw [JfY] at c1
  generalize hF : (l.map fun i => JbD r m i.toNat) = F at *
  generalize JdW key ⟨r.c, m, Jau (r.l.take m), default⟩ = S at *; generalize Jau (r.l.take m) = R at *; generalize itV r m l = V at *; obtain ⟨c, L⟩ := r
  simp only at *
  generalize Jbd (L.take m) = Q at *; clear hfin hF hz h2 h1 hs
  refine EW [5, 12] func91 ?_
  simp -implicitDefEqProofs (disch := omega) only [go_sem, ntmps91]
  refine Jaa c1 ?_
  simp -implicitDefEqProofs (disch := omega) only [go_sem]
  refine JaZ 192938176 192938177 0 4 134 3 (k := ⟨49, 5, [.agg [I c, I m, Str R, Str S, .v (.slice none 0 0)]]⟩) (el := .agg [I c, I m, Str R, Str S, .v (.slice none 0 0)]) (by simp -implicitDefEqProofs (disch := omega) only [go_sem]) (by decide) rfl rfl (by simp) (by simp -implicitDefEqProofs (disch := omega) only [go_sem]) rfl ?_
  refine Jds Plain.mono ?_
  simp -implicitDefEqProofs (disch := omega) only [go_sem]
  refine Jag (fun k E σ => ∃ i : Nat, i + k = l.length /\ i <= m /\ (0 < i -> (i : Int) <= gd l (i - 1) + 1 /\ gd l (i - 1) < m) /\ z = ascN m (prvO l i) (l.drop i) /\ shR c L m R S l i (V i) E σ) l.length ⟨0, by omega, by omega, fun h => absurd h (by omega), hz0, ?_⟩ ?_
  . simp -implicitDefEqProofs (disch := omega) only [go_sem, shR, hv0, false_and]; try rfl
  rintro k E σ ⟨i, hk, him, hpr, hx, e2, e3, e5, e8, e12, e13, m5, m8, m12, mP⟩
  simp -implicitDefEqProofs (disch := omega) only [go_sem, e2, e3, e5, e8, e12, e13, m5, m8, m12, mP]
  refine Jab (fun hc => ?_) (fun hc => ?_)
  . have hi : i < l.length := by omega
    have hx1 := hst i hi; rw [hx1] at hx; have hxr := hR _ (Jao l i hi); have hvi := hvs i hi
    have hvl1 := hvl i (by omega)
    simp -implicitDefEqProofs (disch := omega) only [go_sem, e2, e3, e5, e8, e12, e13, m5, m8, m12, mP]
    refine Jaa (c3 (gd l i)) ?_
    by_cases hb : 0 <= gd l i /\ gd l i < m
    rotate_left
    . rw [decide_eq_false (fun h => hb h.1), L0d] at hx
      rw [decide_eq_false (by omega)]
      subst hx; simp -implicitDefEqProofs (disch := omega) only [go_sem, e2, e3, e5, e8, e12, e13, m5, m8, m12, mP, results91]
    rw [decide_eq_true (by omega)]
    obtain ⟨J, hJ⟩ := L1X hb.1
    have d1 := c2 J (by omega)
    rw [hJ] at hx hvi hb; rw [L1a] at hvi; simp -implicitDefEqProofs (disch := omega) only [go_sem, hJ, e2, e3, e5, e8, e12, e13, m5, m8, m12, mP, hJ]
    refine Jab (fun h2 => ?_) (fun h2 => ?_)
    . have hj : ((i : Int) - 1).toNat = i - 1 := by omega
      simp -implicitDefEqProofs (disch := omega) only [go_sem, hJ, e2, e3, e5, e8, e12, e13, m5, m8, m12, mP, hj, hJ]
      refine Jab (fun h5 => ?_) (fun h5 => ?_)
      . rw [decide_eq_false (fun h => by have := h.2 (by omega); omega), L0d] at hx
        subst hx; simp -implicitDefEqProofs (disch := omega) only [go_sem, hJ, e2, e3, e5, e8, e12, e13, m5, m8, m12, mP, results91]
      . have hx : z = ascN m (prvO l (i + 1)) (l.drop (i + 1)) := by rw [hx, decide_eq_true (by rw [<- hJ]; constructor <;> omega), L0k]
        have hqt : (V i).take i = V i := L0a (by omega)
        have hql : (Q J).reverse.take (Q J).reverse.length = (Q J).reverse := L0c
        simp -implicitDefEqProofs (disch := omega) only [go_sem, hJ, e2, e3, e5, e8, e12, e13, m5, m8, m12, mP, hn]
        refine Jaa d1 ?_ (h4 := .inr (JsC _ _))
        simp -implicitDefEqProofs (disch := omega) only [go_sem, hJ, e2, e3, e5, e8, e12, e13, m5, m8, m12, mP, hvl1, hqt, hvn, false_and]
        have hnx : 0 < i + 1 -> ((i + 1 : Nat) : Int) <= gd l (i + 1 - 1) + 1 /\ gd l (i + 1 - 1) < m := fun _ => by
          rw [L10, hJ]
          by_cases h0 : 0 < i
          . have := hpr h0; omega
          . omega
        have him2 : i + 1 <= m := by have := hnx (by omega); rw [L10, hJ] at this; omega
        have hdec : l.length - (i + 1) < k /\ i + 1 + (l.length - (i + 1)) = l.length := by omega
        refine Jad (l.length - (i + 1)) hdec.1 ⟨i + 1, hdec.2, him2, hnx, hx, ?_⟩
        have hvn1 := fun p => hvn p (i + 1)
        rw [hvi] at hvn1; rw [hvi]; simp -implicitDefEqProofs (disch := omega) only [go_sem, shR, e2, e3, e5, e8, e12, e13, m5, m8, m12, mP, hvl1, hqt, hvn, hvn1, false_and]; try rfl
    . have hx : z = ascN m (prvO l (i + 1)) (l.drop (i + 1)) := by rw [hx, decide_eq_true (by rw [<- hJ]; constructor <;> omega), L0k]
      have hqt : (V i).take i = V i := L0a (by omega)
      have hql : (Q J).reverse.take (Q J).reverse.length = (Q J).reverse := L0c
      simp -implicitDefEqProofs (disch := omega) only [go_sem, hJ, e2, e3, e5, e8, e12, e13, m5, m8, m12, mP, hn]
      refine Jaa d1 ?_ (h4 := .inr (JsC _ _))
      simp -implicitDefEqProofs (disch := omega) only [go_sem, hJ, e2, e3, e5, e8, e12, e13, m5, m8, m12, mP, hvl1, hqt, hvn, false_and]
      have hnx : 0 < i + 1 -> ((i + 1 : Nat) : Int) <= gd l (i + 1 - 1) + 1 /\ gd l (i + 1 - 1) < m := fun _ => by
        rw [L10, hJ]
        by_cases h0 : 0 < i
        . have := hpr h0; omega
        . omega
      have him2 : i + 1 <= m := by have := hnx (by omega); rw [L10, hJ] at this; omega
      have hdec : l.length - (i + 1) < k /\ i + 1 + (l.length - (i + 1)) = l.length := by omega
      refine Jad (l.length - (i + 1)) hdec.1 ⟨i + 1, hdec.2, him2, hnx, hx, ?_⟩
      have hvn1 := fun p => hvn p (i + 1)
      rw [hvi] at hvn1; rw [hvi]; simp -implicitDefEqProofs (disch := omega) only [go_sem, shR, e2, e3, e5, e8, e12, e13, m5, m8, m12, mP, hvl1, hqt, hvn, hvn1, false_and]; try rfl
  . obtain rfl : i = l.length := by omega
    rw [L0K] at hx
    have hx : z = true := hx
    subst hx; rw [hva] at mP
    have hFl : F.length = l.length := by have := hvl l.length (L09 _); rw [hva, L04] at this; exact this
    have hqt : F.take l.length = F := L0a (by omega)
    simp -implicitDefEqProofs (disch := omega) only [go_sem, e2, e3, e5, e8, e12, e13, m5, m8, m12, mP]
    refine Jay Plain.mono [192938176, 192938177] ?_
    simp -implicitDefEqProofs (disch := omega) only [go_sem, e2, e3, e5, e8, e12, e13, m5, m8, m12, mP, hqt, L04, hFl]; simp -implicitDefEqProofs (disch := omega) only [go_sem, e2, e3, e5, e8, e12, e13, m5, m8, m12, mP, hqt, L04, hFl, results91]
def PtOK (p : Pt) : Prop := p.h.r.size <= 9223372036854775807 /\ p.l.length <= 9223372036854775807 /\ ∀ x ∈ p.l, x.e.size <= 9223372036854775807 /\ x.p.length <= 1000000
def prvI (l : List It) (i : Nat) : Option Int := if i = 0 then none else some (gd l (i - 1)).i
theorem JoR (h : Hd) (l : List It) (i : Nat) (hi : i < l.length) : itsB h (prvI l i) (l.drop i) = ((decide (i = 0 \/ (0 < i /\ (gd l (i - 1)).i < (gd l i).i)) && (decide ((gd l i).e.size <= 1000) && verB h.r h.n (gd l i).i (gd l i).e (gd l i).p)) && itsB h (prvI l (i + 1)) (l.drop (i + 1))) := by
 rw [JaY l i hi, itsB, itB]
 have c : prvI l (i + 1) = some (gd l i).i := by unfold prvI; rw [if_neg (by omega), L10]
 rw [c]
 congr 2
 rw [decide_eq_decide]; unfold prvI
 by_cases h0 : i = 0
 . subst h0; simp
 . rw [if_neg h0]
   exact ⟨fun b => .inr ⟨by omega, b _ rfl⟩, fun b q d => by cases d; rcases b with b | b; exact absurd b h0; exact b.2⟩
set_option maxHeartbeats 2000000 in
theorem Jii (key : ByteArray) (p : Pt) (hp : PtOK p) : Ev prog 85 [Str key, PTP p] (B (Jbj key p)) := by
  have c1 := JxI key p.h hp.1
  have hch : Jbj key p = (genB key p.h && itsB p.h none p.l) := rfl
  have hng : genB key p.h = true -> 0 <= p.h.n /\ p.h.n <= 60 := fun h => (JlQ.1 h).2.2.1
  obtain ⟨z, hz⟩ : ∃ z, Jbj key p = z := ⟨_, rfl⟩
  rw [hz] at hch ⊢; generalize genB key p.h = g at *; have hst := JoR p.h p.l
  have hz0 : itsB p.h none p.l = itsB p.h (prvI p.l 0) (p.l.drop 0) := rfl
  rw [hz0] at hch
  obtain ⟨⟨c, n, r, s⟩, l⟩ := p
  obtain ⟨hp1, hp2, hp3⟩ := hp
  simp only at *
  have c4 := fun (x : It) (hx : x ∈ l) (hn : n <= 60) (hs : x.e.size <= 1000) => JyZ r n x.i x.e x.p hn (by omega) (hp3 x hx).2
  refine EV func85 ?_
  simp -implicitDefEqProofs (disch := omega) only [go_sem, ntmps85]
  refine Jaa c1 ?_
  cases g with
  | false =>
    subst hch; simp -implicitDefEqProofs (disch := omega) only [go_sem, L0d, results85]
  | true =>
  rw [L0k] at hch; have hn := hng rfl; clear hng hz0 c1 hz; simp -implicitDefEqProofs (disch := omega) only [go_sem]
  refine Jag (fun k E σ => ∃ i : Nat, i + k = l.length /\ z = itsB ⟨c, n, r, s⟩ (prvI l i) (l.drop i) /\ E 3 = .ptr 180355120 5 0 0 /\ E 14 = ITS l /\ E 15 = I l.length /\ E 16 = I i /\ σ 180355120 = some ⟨49, 5, [.agg [I c, I n, Str r, Str s, ITS l]]⟩) l.length ⟨0, by omega, hch, ?_⟩ ?_
  . simp -implicitDefEqProofs (disch := omega) only [go_sem]; try rfl
  rintro k E σ ⟨i, hk, hx, e3, e14, e15, e16, m3⟩
  simp -implicitDefEqProofs (disch := omega) only [go_sem, e3, e14, e15, e16, m3]
  refine Jab (fun hc => ?_) (fun hc => ?_)
  . have hi : i < l.length := by omega
    rw [hst i hi] at hx; have d4 := c4 _ (Jao l i hi) hn.2; have hpi := hp3 _ (Jao l i hi)
    have hdec : l.length - (i + 1) < k /\ i + 1 + (l.length - (i + 1)) = l.length := by omega
    try simp only at hx
    generalize hX : gd l i = X at *; obtain ⟨xi, xe, xp⟩ := X
    try simp only at *
    generalize verB r n xi xe xp = v at *
    have h0b : ((i : Int) == 0) = decide (i = 0) := by rw [L1k]; simp
    have hj : ((i : Int) - 1).toNat = i - 1 := by omega
    simp -implicitDefEqProofs (disch := omega) only [go_sem, e3, e14, e15, e16, m3, hX, h0b]
    refine Jab (fun h0 => ?_) (fun h0 => ?_)
    . rw [decide_eq_true (Or.inl h0), L0k] at hx; simp -implicitDefEqProofs (disch := omega) only [go_sem, e3, e14, e15, e16, m3, hX]
      refine Jab (fun h5 => ?_) (fun h5 => ?_)
      . rw [decide_eq_false (by omega), L0d, L0d] at hx
        subst hx; simp -implicitDefEqProofs (disch := omega) only [go_sem, e3, e14, e15, e16, m3, hX, results85]
      . rw [decide_eq_true (by omega), L0k] at hx
        simp -implicitDefEqProofs (disch := omega) only [go_sem, e3, e14, e15, e16, m3, hX]
        refine Jaa (d4 (by omega)) ?_
        cases v
        . rw [L0d] at hx; subst hx; simp -implicitDefEqProofs (disch := omega) only [go_sem, e3, e14, e15, e16, m3, hX, results85]
        . rw [L0k] at hx; simp -implicitDefEqProofs (disch := omega) only [go_sem, e3, e14, e15, e16, m3, hX]
          refine Jad (l.length - (i + 1)) hdec.1 ⟨i + 1, hdec.2, hx, ?_⟩
          simp -implicitDefEqProofs (disch := omega) only [go_sem, e3, e14, e15, e16, m3, hX]; try rfl
    . simp -implicitDefEqProofs (disch := omega) only [go_sem, e3, e14, e15, e16, m3, hX, hj]
      refine Jab (fun h2 => ?_) (fun h2 => ?_)
      . rw [decide_eq_false (fun h => by rcases h with h | h; exact h0 h; exact h2 h.2), L0d, L0d] at hx
        subst hx; simp -implicitDefEqProofs (disch := omega) only [go_sem, e3, e14, e15, e16, m3, hX, results85]
      . rw [decide_eq_true (Or.inr ⟨by omega, by omega⟩), L0k] at hx
        simp -implicitDefEqProofs (disch := omega) only [go_sem, e3, e14, e15, e16, m3, hX]
        refine Jab (fun h5 => ?_) (fun h5 => ?_)
        . rw [decide_eq_false (by omega), L0d, L0d] at hx
          subst hx; simp -implicitDefEqProofs (disch := omega) only [go_sem, e3, e14, e15, e16, m3, hX, results85]
        . rw [decide_eq_true (by omega), L0k] at hx
          simp -implicitDefEqProofs (disch := omega) only [go_sem, e3, e14, e15, e16, m3, hX]
          refine Jaa (d4 (by omega)) ?_
          cases v
          . rw [L0d] at hx; subst hx; simp -implicitDefEqProofs (disch := omega) only [go_sem, e3, e14, e15, e16, m3, hX, results85]
          . rw [L0k] at hx; simp -implicitDefEqProofs (disch := omega) only [go_sem, e3, e14, e15, e16, m3, hX]
            refine Jad (l.length - (i + 1)) hdec.1 ⟨i + 1, hdec.2, hx, ?_⟩
            simp -implicitDefEqProofs (disch := omega) only [go_sem, e3, e14, e15, e16, m3, hX]; try rfl
  . obtain rfl : i = l.length := by omega
    rw [L0K] at hx
    have hx : z = true := hx
    subst hx; simp -implicitDefEqProofs (disch := omega) only [go_sem, e3, e14, e15, e16, m3, results85]
end Go.Proofs.YtnpbhgeffapojaaGreatDoor
namespace Go.Vai
open Go.RowKit
theorem JkZ {S : Sp} {dst : Option Nat} {t ty kt et : TypeId} {x y : Operand} {K : Env -> Jac -> Prop} {E : Env} {σ : Jac} {l : List (Int × AV)} {n : Int} {z : Value}
 (hx : ev E x = .mp (l.map entA)) (hy : ev E y = I n) (ht : S.P.underlying t = some (.map kt et)) (hk : S.P.underlying kt = some (.int .i64)) (hz : tz S.P et = some z)
 (hsome : ∀ v, Jhl n l = some v -> K (updO E dst (.tup [v, B true])) σ) (hnone : Jhl n l = none -> K (updO E dst (.tup [ofC z, B false])) σ)
 (hfit : (dst.all (decide <| · < S.N) && Op.low S.N (.lookup t x y true)) = true := by kernel_rfl) : semD S dst (.lookup t x y true) ty K E σ := by
 intro pos after guard C H nn a w Kc Q ⟨ρ, Im, M, hw⟩ hKc
 simp only [L00] at hfit; obtain ⟨hdst, hlow⟩ := hfit
 have hdst' : ∀ d, dst = some d -> d < C.N := fun d hd => by subst hd; rw [<- H.N]; simpa using hdst
 have rep : ∀ u, u ∈ (Op.lookup t x y true).operands -> Rep w ρ Im (ev E u) (a.eval u) := fun u hu => Jbq hw.env (by rw [hw.size, <- H.N]; exact Jbk hlow hu)
 have hrx := rep x (by simp [Op.operands])
 have hry := rep y (by simp [Op.operands])
 rw [hx] at hrx; rw [hy] at hry; have hyv := hry.v_inv
 have hput : ∀ {v : AV} {yv : Value}, Rep w ρ Im v yv -> ∀ b : Bool, Rep w ρ Im (.tup [v, B b]) (.tuple #[yv, .bool b]) := fun {v yv} hv b => .tup _ [yv, .bool b] rfl fun j c q hc hq => by
  match j with
  | 0 => simp at hc hq; subst hc; subst hq; exact hv
  | 1 => simp at hc hq; subst hc; subst hq; exact .im _ _ (.v _)
 cases hrx with
 | im _ _ hi =>
  rcases hi.mp_inv with ⟨hes, hi'⟩ | ⟨b, ents, clk, f, hi', hb, hl, hes', h⟩
  . have hl : l = [] := by simpa using hes
    subst hl
    have hck := MapKept.run_checkKey (P := S.P) (w := w) hk (k := .int .i64 n) rfl true 9999
    have hfk := MapKept.run_findKey (P := S.P) (w := w) hk (k := .int .i64 n) (l := []) (a := none) rfl
    have run : (execOp a.eval ⟨dst, .lookup t x y true, ty, pos, after, guard⟩).run S.P w = .ok (.value (.tuple #[z, .bool false])) w := by
     simp only [execOp, hi', hyv, Instr.lookup, Sem.run_bind, run_underlying ht w, Result.andThen_ok, Sem.run_pure, Array.isEmpty_empty, hck, hfk]
     simp [JbV hz w, Sem.run_bind, Result.andThen_ok]
    exact JaD (fun _ e => by cases e) run (hKc _ _ _ _ (hnone rfl) ⟨ρ, Im, M, hw.put H.G hdst' (hput (Jc2 z) false)⟩)
  . have he : Ents ents.toList l := ⟨by simpa using hl.symm, fun i m p hm hp => by
     have h1 := hes' i m (by rw [<- L0t]; exact hm)
     rw [L02, hp] at h1; simp only [L0C, Option.some.injEq, AV.tup.injEq, List.cons.injEq, AV.v.injEq, and_true] at h1
     exact h1.1.symm⟩
    have hv : ∀ (i : Nat) (m : MapEntry) (p : Int × AV), ents.toList[i]? = some m -> l[i]? = some p -> Rep w ρ Im p.2 m.val := fun i m p hm hp => by
     have hm' : ents[i]? = some m := by rw [<- L0t]; exact hm
     have h1 := hes' i m hm'; rw [L02, hp] at h1; simp only [L0C, Option.some.injEq, AV.tup.injEq, List.cons.injEq, AV.v.injEq, and_true] at h1
     rw [h1.2]; exact .im _ _ (h i m hm')
    have hck := MapKept.run_checkKey (P := S.P) (w := w) hk (k := .int .i64 n) rfl ents.isEmpty 9999
    have run : ∀ r, Instr.findNow (.int .i64) (.int .i64 n) ents.toList 0 = some r -> (execOp a.eval ⟨dst, .lookup t x y true, ty, pos, after, guard⟩).run S.P w = .ok (.value (.tuple (match r with | some (_, v) => #[v, .bool true] | none => #[z, .bool false]))) w := fun r hr => by
     simp only [execOp, hi', hyv, Instr.lookup, Sem.run_bind, run_underlying ht w, Result.andThen_ok, MapKept.run_getObj_map hb, Sem.run_pure, hck, MapKept.run_findKey hk hr]
     cases r with
     | none => simp [JbV hz w, Sem.run_bind, Result.andThen_ok]
     | some q => simp [Sem.run_bind, Result.andThen_ok]
    rcases Jgu n ents.toList l 0 he with ⟨_, h2, h3⟩ | ⟨j, p, m, _, h2, _, h4, h5, h6⟩
    . exact JaD (fun _ e => by cases e) (run _ h3) (hKc _ _ _ _ (hnone h2) ⟨ρ, Im, M, hw.put H.G hdst' (hput (Jc2 z) false)⟩)
    . exact JaD (fun _ e => by cases e) (run _ h6) (hKc _ _ _ _ (hsome _ h5) ⟨ρ, Im, M, hw.put H.G hdst' (hput (hv j m p h4 h2) true)⟩)
end Go.Vai
set_option maxRecDepth 100000
namespace Go.Proofs.YtnpbhgeffapojaaGreatDoor
open Go.Proofs.Tryz
open Go.Vai Go Go.Proofs
theorem Jt6 (g : FuncId) (caps : List AV) (Q : It -> Bool) (l : List It) (u : ∀ r ∈ l, Ev prog g ([ITP r] ++ caps) (B (Q r))) (j : ∀ p, AV.namesL p caps = false) (o : ∀ σ, caps.map (res σ) = caps) (z : l.length <= 9223372036854775807) (q : JaF caps = true := by rfl) : Ev prog 177 [ITS l, .clo g caps] (I (idxG Q l 0)) := by
 refine EV func177 ?_
 simp -implicitDefEqProofs (disch := omega) only [go_sem, ntmps177]
 refine Jag (fun k E σ => ∃ i : Nat, i + k = l.length /\ idxG Q l 0 = idxG Q (l.drop i) i /\ E 0 = ITS l /\ E 1 = .clo g caps /\ E 7 = I l.length /\ E 8 = I i) l.length ⟨0, by omega, rfl, ?_⟩ ?_
 . simp -implicitDefEqProofs (disch := omega) only [go_sem, j]
   rfl
 rintro k E σ ⟨i, y, m, b, c, d, f⟩
 simp -implicitDefEqProofs (disch := omega) only [go_sem, b, c, d, f]
 refine Jab (fun t => ?_) (fun t => ?_)
 . have s : i < l.length := by omega
   rw [JaY l i s, idxG] at m; have w := u (gd l i) (Jao l i s); simp -implicitDefEqProofs (disch := omega) only [go_sem, b, c, d, f, j, o, q, L0Z]
   refine Jaa w ?_
   simp -implicitDefEqProofs (disch := omega) only [go_sem, b, c, d, f]
   refine Jab (fun h => ?_) (fun h => ?_)
   . have h : Q (gd l i) = true := by simpa using h
     rw [if_pos h] at m; simp -implicitDefEqProofs (disch := omega) only [go_sem, b, c, d, f, m, results177]
   . have h : ¬ Q (gd l i) = true := by simpa using h
     rw [if_neg h] at m; simp -implicitDefEqProofs (disch := omega) only [go_sem, b, c, d, f]
     refine Jad (l.length - (i + 1)) (by omega) ⟨i + 1, by omega, m, ?_⟩
     simp -implicitDefEqProofs (disch := omega) only [go_sem, b, c, d, f, j]
     rfl
 . obtain rfl : i = l.length := by omega
   rw [L0K, idxG] at m; simp -implicitDefEqProofs (disch := omega) only [go_sem, b, c, d, f, m, results177]
theorem JtY (g : FuncId) (caps : List AV) (Q : It -> Bool) (l : List It) (f : ∀ r ∈ l, Ev prog g ([ITP r] ++ caps) (B (Q r))) (b : ∀ p, AV.namesL p caps = false) (c : ∀ σ, caps.map (res σ) = caps) (i : l.length <= 9223372036854775807) (d : JaF caps = true := by rfl) : Ev prog 134 [ITS l, .clo g caps] (B (l.any Q)) := by
 have h := Jt6 g caps Q l f b c i d; rw [<- JdG Q l 0]; generalize idxG Q l 0 = n at *
 refine EV func134 ?_
 simp -implicitDefEqProofs (disch := omega) only [go_sem, ntmps134, b, c]
 refine Jaa h ?_
 simp -implicitDefEqProofs (disch := omega) only [go_sem, results134]
def mapK (l : List It) : List (Int × AV) := l.map fun x => (x.i, Str x.e)
section
variable (p : Nat -> Bool) (l : List It)
@[go_sem] theorem Juj : AV.namesL p ((mapK l).map entA) = false := by
 unfold mapK; rw [L17]; exact Jal p l _ fun _ => rfl
end
theorem Jo6 (l : List It) (x : It) : mapK (l ++ [x]) = mapK l ++ [(x.i, Str x.e)] := by unfold mapK; rw [L0Z]; rfl
theorem JjE {n : Int} : ∀ {l : List It}, (∀ x ∈ l, x.i ≠ n) -> idxA n (mapK l) = none
 | [], _ => rfl
 | x :: l, h => by
  have c := JjE (n := n) (l := l) fun y b => h y (L1i _ b)
  show (if x.i = n then some 0 else (idxA n (mapK l)).map (· + 1)) = none
  rw [if_neg (h x (by simp)), c]; rfl
theorem JuC {l : List It} {x : It} (h : ∀ y ∈ l, y.i ≠ x.i) : JjP (mapK l) x.i (Str x.e) = mapK (l ++ [x]) := by
 unfold JjP; rw [JjE h, Jo6]
theorem JoS {h : Hd} : ∀ {l : List It} {o : Option Int}, itsB h o l = true -> (∀ x ∈ l, ∀ q, o = some q -> q < x.i) /\ l.Pairwise fun x y => x.i < y.i
 | [], o, _ => ⟨fun x hx => by simp at hx, List.Pairwise.nil⟩
 | x :: l, o, hi => by
  rw [itsB, L00] at hi; obtain ⟨h1, h2⟩ := hi
  have ⟨h3, h4⟩ := JoS h2
  unfold itB at h1; rw [L00, decide_eq_true_iff] at h1
  refine ⟨fun y hy q hq => ?_, L1b.2 ⟨fun y hy => h3 y hy _ rfl, h4⟩⟩
  rcases L0h.1 hy with rfl | hy
  . exact h1.1 q hq
  . have := h1.1 q hq
    have := h3 y hy _ rfl
    omega
theorem JoB {n : Int} : ∀ {l : List It}, Jhl n (mapK l) = (l.find? fun x => decide (x.i = n)).map fun x => Str x.e
 | [] => rfl
 | x :: l => by
  show (if x.i = n then some (Str x.e) else Jhl n (mapK l)) = _
  rw [JoB]
  by_cases h : x.i = n
  . rw [if_pos h, List.find?_cons_of_pos (by simp [h])]; rfl
  . rw [if_neg h, List.find?_cons_of_neg (by simp [h])]
def difB (l : List It) (y : It) : Bool := l.any fun x => decide (x.i = y.i /\ x.e ≠ y.e)
theorem JqZ {l : List It} (b : l.Pairwise fun x y => x.i < y.i) (y : It) : difB l y = match l.find? (fun x => decide (x.i = y.i)) with | some x => decide (x.e ≠ y.e) | none => false := by
 induction l with
 | nil => rfl
 | cons x l d =>
  rw [L1b] at b; unfold difB at d ⊢; rw [List.any_cons]
  by_cases h : x.i = y.i
  . rw [List.find?_cons_of_pos (by simp [h])]
    have : (l.any fun x => decide (x.i = y.i /\ x.e ≠ y.e)) = false := by
     rw [List.any_eq_false]
     intro z g
     have := b.1 z g
     simp; intro c; omega
    rw [this, L12, decide_eq_decide]
    exact ⟨fun h => h.2, fun f => ⟨h, f⟩⟩
  . rw [List.find?_cons_of_neg (by simp [h]), decide_eq_false (fun c => h c.1), L1n]
    exact d b.2
theorem Jqa : prog.underlying 212 = some (.map 3 9) := by kernel_rfl
theorem JyY : prog.underlying 3 = some (.int .i64) := by kernel_rfl
theorem tz_s : tz prog 9 = some (.string ByteArray.empty) := by kernel_rfl
abbrev MPK (l : List It) : AV := .mp ((mapK l).map entA)
@[go_sem] theorem JCN {σ : Jac} {R : AV -> Prop} (es : List AV) : retK σ R [.mp es] = R (.mp es) := by
 simp only [retK, JeA, Jat, AV.single, expo, JeY (vs := [.mp es]) rfl, Jch, eq_iff_iff, true_and]
 refine ⟨fun h => h.2, fun h => ⟨⟨List.nodup_nil, fun v b => ?_⟩, h⟩⟩
 rw [L0p] at b; subst b
 try trivial
theorem JmQ (p : Pt) (D : p.l.length <= 9223372036854775807) (z : p.l.Pairwise fun x y => x.i < y.i) : Ev prog 132 [PTP p] (MPK p.l) := by
 obtain ⟨⟨c, n, r, s⟩, l⟩ := p
 simp only at *
 refine EW [7] func132 ?_
 simp -implicitDefEqProofs (disch := omega) only [go_sem, ntmps132]
 refine JhG ?_
 simp -implicitDefEqProofs (disch := omega) only [go_sem]
 refine Jag (fun k E t => ∃ i : Nat, i + k = l.length /\ E 3 = .mref 278921312 /\ E 8 = ITS l /\ E 9 = I l.length /\ E 10 = I i /\ t 278921312 = some ⟨212, 0, (mapK (l.take i)).map entA⟩) l.length ⟨0, by omega, ?_⟩ ?_
 . simp -implicitDefEqProofs (disch := omega) only [go_sem]
   exact ⟨rfl, rfl⟩
 rintro k E t ⟨i, C, f, g, h, b, d⟩
 simp -implicitDefEqProofs (disch := omega) only [go_sem, f, g, h, b, d]
 refine Jab (fun u => ?_) (fun u => ?_)
 . have q : i < l.length := by omega
   have m : l.length - (i + 1) < k /\ i + 1 + (l.length - (i + 1)) = l.length := by omega
   have o : JjP (mapK (l.take i)) (gd l i).i (Str (gd l i).e) = mapK (l.take (i + 1)) := by
    rw [Jp6 l i q]
    refine JuC fun y A => ?_
    obtain ⟨j, B, rfl⟩ := List.mem_take_iff_getElem.1 A
    have := L2m.1 z j i (by omega) q (by omega)
    have w : gd l i = l[i] := by unfold gd; rw [L19, L06 q]; rfl
    rw [w]; omega
   simp -implicitDefEqProofs (disch := omega) only [go_sem, f, g, h, b, d]
   refine JjM (kt := 3) (et := 9) (id := 278921312) (e := 212) (l := mapK (l.take i)) (n := (gd l i).i) ?_ ?_ ?_ Jqa JyY ?_
   . simp -implicitDefEqProofs (disch := omega) only [go_sem, f, g, h, b, d]
   . simp -implicitDefEqProofs (disch := omega) only [go_sem, f, g, h, b, d]
   . simp -implicitDefEqProofs (disch := omega) only [go_sem, f, g, h, b, d]
   . simp -implicitDefEqProofs (disch := omega) only [go_sem, f, g, h, b, d]; rw [o]
     refine Jad (l.length - (i + 1)) m.1 ⟨i + 1, m.2, ?_⟩
     simp -implicitDefEqProofs (disch := omega) only [go_sem, f, g, h, b, d]; try rfl
 . obtain rfl : i = l.length := by omega
   rw [L0c] at d; simp -implicitDefEqProofs (disch := omega) only [go_sem, f, g, h, b, d]
   refine Jay Plain.mono [278921312] ?_
   simp -implicitDefEqProofs (disch := omega) only [go_sem, f, g, h, b, d]; simp -implicitDefEqProofs (disch := omega) only [go_sem, f, g, h, b, d, results132]
theorem JrA (l : List It) (g : l.Pairwise fun x y => x.i < y.i) (y : It) : Ev prog 133 ([ITP y] ++ [.pt (MPK l) 0]) (B (difB l y)) := by
 have c := JqZ g y
 have b := JoB (n := y.i) (l := l)
 generalize difB l y = z at *; obtain ⟨f, h, j⟩ := y
 simp only at *
 refine EV func133 ?_
 simp -implicitDefEqProofs (disch := omega) only [go_sem, ntmps133]
 refine JkZ (kt := 3) (et := 9) (l := mapK l) (n := f) ?_ ?_ Jqa JyY tz_s (fun v d => ?_) (fun d => ?_)
 . simp -implicitDefEqProofs (disch := omega) only [go_sem]
 . simp -implicitDefEqProofs (disch := omega) only [go_sem]
 . rw [d] at b
   cases hf : l.find? fun x => decide (x.i = f) with
   | none => rw [hf] at b; cases b
   | some x =>
    rw [hf] at b c; simp only [L0C, Option.some.injEq] at b; subst b
    simp only at c
    subst c; simp -implicitDefEqProofs (disch := omega) only [go_sem, results133]; rw [Jel, <- decide_not]
 . rw [d] at b
   cases hf : l.find? fun x => decide (x.i = f) with
   | some x => rw [hf] at b; cases b
   | none =>
    rw [hf] at c
    simp only at c
    subst c; simp -implicitDefEqProofs (disch := omega) only [go_sem, results133]
@[go_sem] theorem JuA (b : Option Nat) : ((Value.map b).oneCell' = true) = True := by cases b <;> simp [Value.oneCell']
section
variable (q : Nat -> Bool) (es : List AV)
@[go_sem] theorem ok_mp : AV.ok (.mp es) = true := rfl
@[go_sem] theorem cells_mp : AV.cells (.mp es) = [.mp es] := rfl
@[go_sem] theorem JCc : AV.kill q (.mp es) = .mp es := by
 unfold AV.kill
 split <;> rfl
end
theorem JqX (a b : Pt) : Jij a b = (decide (a.h.c = b.h.c) && (decide (a.h.n = b.h.n /\ a.h.r ≠ b.h.r) || b.l.any (difB a.l))) := rfl
theorem JkE (a b : Pt) (ha : a.l.length <= 9223372036854775807) (hb : b.l.length <= 9223372036854775807) (hp : a.l.Pairwise fun x y => x.i < y.i) : Ev prog 86 [PTP a, PTP b] (B (Jij a b)) := by
 have c1 := JmQ a ha hp
 have c2 := JtY 133 [.pt (MPK a.l) 0] (difB a.l) b.l (fun y _ => JrA a.l hp y) (fun _ => rfl) (fun _ => rfl) hb
 have hc := JqX a b
 obtain ⟨z, hz⟩ : ∃ z, Jij a b = z := ⟨_, rfl⟩
 rw [hz] at hc ⊢
 obtain ⟨⟨ac, an, ar, as_⟩, al⟩ := a
 obtain ⟨⟨bc, bn, br, bs⟩, bl⟩ := b
 simp only at *
 generalize hv : bl.any (difB al) = v at *
 refine EV func86 ?_
 simp -implicitDefEqProofs (disch := omega) only [go_sem, ntmps86]
 refine Jab (fun h1 => ?_) (fun h1 => ?_)
 . rw [decide_eq_false h1, L0d] at hc; subst hc; simp -implicitDefEqProofs (disch := omega) only [go_sem, results86]
 rw [decide_eq_true (by omega), L0k] at hc
 simp -implicitDefEqProofs (disch := omega) only [go_sem]
 refine Jaa c1 ?_
 simp -implicitDefEqProofs (disch := omega) only [go_sem]
 refine Jab (fun h2 => ?_) (fun h2 => ?_)
 . simp -implicitDefEqProofs (disch := omega) only [go_sem, Jel, <- decide_not]
   refine Jab (fun h3 => ?_) (fun h3 => ?_)
   . rw [decide_eq_true (by exact ⟨h2, h3⟩), Bool.true_or] at hc
     subst hc; simp -implicitDefEqProofs (disch := omega) only [go_sem, results86]
   . rw [decide_eq_false (fun h => h3 h.2), L1n] at hc
     subst hc; simp -implicitDefEqProofs (disch := omega) only [go_sem]
     refine Jap rfl ?_
     refine Ja0 [182452304] ?_
     simp -implicitDefEqProofs (disch := omega) only [go_sem]
     refine Jaa c2 ?_
     simp -implicitDefEqProofs (disch := omega) only [go_sem, results86]
 . rw [decide_eq_false (fun h => h2 h.1), L1n] at hc
   subst hc; simp -implicitDefEqProofs (disch := omega) only [go_sem]
   refine Jap rfl ?_
   refine Ja0 [182452304] ?_
   simp -implicitDefEqProofs (disch := omega) only [go_sem]
   refine Jaa c2 ?_
   simp -implicitDefEqProofs (disch := omega) only [go_sem, results86]
theorem JtG (key : ByteArray) (a b : Pt) (c : PtOK a) (d : PtOK b) : Ev prog 42 [Str key, PTP a, PTP b] (B (Jbj key a && Jbj key b && Jij a b)) := by
 have f := Jii key a c; have g := Jii key b d
 have i : Jbj key a = true -> Ev prog 86 [PTP a, PTP b] (B (Jij a b)) := fun h => by
  unfold Jbj at h; rw [L00] at h
  exact JkE a b c.2.1 d.2.1 (JoS h.2).2
 generalize Jbj key a = x at *; generalize Jbj key b = y at *; generalize Jij a b = v at *
 refine EV func42 ?_
 simp -implicitDefEqProofs (disch := omega) only [go_sem, ntmps42]
 refine Jaa f ?_
 cases x
 . simp -implicitDefEqProofs (disch := omega) only [go_sem, results42]; try rfl
 simp -implicitDefEqProofs (disch := omega) only [go_sem]
 refine Jaa g ?_
 cases y
 . simp -implicitDefEqProofs (disch := omega) only [go_sem, results42]; try rfl
 simp -implicitDefEqProofs (disch := omega) only [go_sem]
 refine Jaa (i rfl) ?_
 simp -implicitDefEqProofs (disch := omega) only [go_sem, results42]; try rfl
theorem JeM (c n : Int) (b : R64 c) (g : 0 < n) : Ev prog 84 [I c, I n] (I (Jaf c n)) := by
 obtain ⟨d, f⟩ := b
 refine EV func84 ?_
 simp -implicitDefEqProofs (disch := omega) only [go_sem, ntmps84]
 refine Jab (fun h => ?_) (fun h => ?_) <;> simp -implicitDefEqProofs (disch := omega) only [go_sem, results84]
 . rw [show (0 - (c+1)) = -(c+1) from by omega]; simp [Jaf, h]
 . simp [Jaf, h]
theorem JaH (c n : Int) (b : R64 c) (g : 0 < n) : Ev prog 52 [I c, I n] (I (Jaf c n)) := by
 obtain ⟨d, f⟩ := b
 refine EV func52 ?_
 simp -implicitDefEqProofs (disch := omega) only [go_sem, ntmps52]
 refine Jab (fun h => ?_) (fun h => ?_) <;> simp -implicitDefEqProofs (disch := omega) only [go_sem, results52]
 . rw [show (0 - (c+1)) = -(c+1) from by omega]; simp [Jaf, h]
 . simp [Jaf, h]
theorem JeN (c n : Int) (b : R64 c) (g : 0 < n) : Ev prog 15 [I c, I n] (I (Jaf c n)) := by
 obtain ⟨d, f⟩ := b
 refine EV func15 ?_
 simp -implicitDefEqProofs (disch := omega) only [go_sem, ntmps15]
 refine Jab (fun h => ?_) (fun h => ?_) <;> simp -implicitDefEqProofs (disch := omega) only [go_sem, results15]
 . rw [show (0 - (c+1)) = -(c+1) from by omega]; simp [Jaf, h]
 . simp [Jaf, h]
def keyF (c : Int) : ByteArray := strOfNums (List.replicate 32 (100 + c))
theorem JeE (c : Int) : (keyF c).size = 32 := by unfold keyF; rw [strOfNums_size]; simp
def JfQ (b : Int) (v : Nat) : List Int := List.replicate v b ++ List.replicate (32 - v) 0
theorem Jor (b : Int) (v : Nat) (c : v < 32) : (JfQ b v).set v b = JfQ b (v + 1) := by
 unfold JfQ
 rw [List.set_append_right _ _ (by simp), List.length_replicate, L1h, show 32 - v = (32 - (v + 1)) + 1 from by omega, List.replicate_succ, List.set_cons_zero, L2k]
 simp
theorem Jju (b : Int) (v : Nat) (c : v <= 32) : (JfQ b v).length = 32 := by unfold JfQ; simp; omega
@[go_sem] theorem made_Y (n : Nat) : List.replicate n (Y 0) = (List.replicate n 0).map Y := by simp
theorem JoV (c : Int) (p : 0 <= c /\ c <= 100) : Ev prog 36 [I c] (Str (keyF c)) := by
 have k : IntKind.u8.wrap (100 + c) = 100 + c := by simp [IntKind.wrap, IntKind.bits, IntKind.signed]; omega
 have t : R64 (100 + c) := by constructor <;> omega
 refine EV func36 ?_
 unfold keyF; simp -implicitDefEqProofs (disch := omega) only [go_sem, ntmps36]
 refine Jag (fun n E q => ∃ v : Nat, v + n = 32 /\ E 0 = I c /\ E 3 = .own 77594704 1 0 32 /\ E 4 = I v /\ q 77594704 = some ⟨5, 1, (JfQ (100 + c) v).map Y⟩) 32 ⟨0, by omega, ?_⟩ ?_
 . simp -implicitDefEqProofs (disch := omega) only [go_sem]
   exact ⟨rfl, rfl⟩
 . rintro n E q ⟨v, u, i, g, j, h⟩
   have d := Jju (100 + c) v (by omega)
   simp -implicitDefEqProofs (disch := omega) only [go_sem, i, g, j, h]
   refine Jab (fun p => ?_) (fun p => ?_)
   . have f := Jor (100 + c) v (by omega)
     simp -implicitDefEqProofs (disch := omega) only [go_sem, i, g, j, h, d, f, k]
     refine Jad (n - 1) (by omega) ⟨v + 1, by omega, ?_⟩
     simp -implicitDefEqProofs (disch := omega) only [go_sem, i, g, j, h, d, f, k]
     simp
   . obtain rfl : v = 32 := by omega
     have l : JfQ (100 + c) 32 = List.replicate 32 (100 + c) := by simp [JfQ]
     rw [l] at h d; generalize s : List.replicate 32 (100 + c) = o at *
     have m : o.take 32 = o := L0a (by omega)
     simp -implicitDefEqProofs (disch := omega) only [go_sem, i, g, j, h, d]
     refine Jcw o (by simp -implicitDefEqProofs (disch := omega) only [go_sem, g, h, d, m]) (by intro b; simp -implicitDefEqProofs (disch := omega) only [go_sem, g]; intro e; cases e) (e := 5) rfl rfl rfl ?_
     simp -implicitDefEqProofs (disch := omega) only [go_sem, i, g, j, h, d, results36]
def posE (u : ByteArray) : List ByteArray -> Nat -> Option Nat
 | [], _ => none
 | e :: l, v => if e = u then some v else posE u l (v + 1)
def addM : List (ByteArray × AV) -> Nat -> List ByteArray -> List (ByteArray × AV)
 | M, _, [] => M
 | M, v, e :: l => addM (match Jbz e M with | some _ => M | none => M ++ [(e, I v)]) (v + 1) l
theorem JjG {e : ByteArray} : ∀ {M : List (ByteArray × AV)}, Jbz e M = none -> idxS e M = none
 | [], _ => rfl
 | p :: r, h => by
  rw [Jbz] at h
  split at h
  . cases h
  . rename_i b
    rw [idxS, if_neg b, JjG h]; rfl
theorem Jmf {e : ByteArray} {M : List (ByteArray × AV)} (x : AV) (h : Jbz e M = none) : Jk3 M e x = M ++ [(e, x)] := by
 unfold Jk3; rw [JjG h]
theorem JlR (u e : ByteArray) (x : AV) : ∀ M : List (ByteArray × AV), Jbz u (M ++ [(e, x)]) = match Jbz u M with | some a => some a | none => if e = u then some x else none
 | [] => rfl
 | p :: r => by
  rw [L0A, Jbz, Jbz]
  by_cases h : p.1 = u
  . rw [if_pos h, if_pos h]
  . rw [if_neg h, if_neg h]; exact JlR u e x r
theorem Joz (u : ByteArray) : ∀ (L : List ByteArray) (v : Nat) (M : List (ByteArray × AV)), Jbz u (addM M v L) = match Jbz u M with | some a => some a | none => (posE u L v).map fun p => I p
 | [], v, M => by
  rw [addM]
  cases Jbz u M <;> rfl
 | e :: l, v, M => by
  rw [addM, Joz u l (v + 1)]
  cases he : Jbz e M with
  | some a =>
   simp only
   cases hu : Jbz u M with
   | some b => rfl
   | none =>
    have c : e ≠ u := fun h => by rw [h, hu] at he; cases he
    simp only [posE, if_neg c]
  | none =>
   simp only [JlR]
   cases hu : Jbz u M with
   | some b => rfl
   | none =>
    simp only [posE]
    by_cases h : e = u
    . simp [h]
    . simp [h]
theorem Jpt (u : ByteArray) : ∀ (L : List ByteArray) (v p : Nat), posE u L v = some p -> v <= p
 | [], v, p, h => by cases h
 | e :: l, v, p, h => by
  rw [posE] at h
  split at h
  . cases h; exact L09 _
  . have := Jpt u l (v + 1) p h; omega
def fstP (x y : Option Nat) : Int := match x, y with
 | none, none => 0
 | some _, none => 1
 | none, some _ => 2
 | some a, some b => if a < b then 1 else 2
theorem Jov {u w : ByteArray} (h : u ≠ w) : ∀ (L : List ByteArray) (v : Nat), fstF u w L = fstP (posE u L v) (posE w L v)
 | [], v => rfl
 | e :: l, v => by
  rw [fstF, posE, posE]
  by_cases h1 : e = u
  . rw [if_pos h1, if_pos h1, if_neg (fun c => h (h1.symm.trans c))]
    cases hp : posE w l (v + 1) with
    | none => rfl
    | some b =>
     have := Jpt w l (v + 1) b hp
     show 1 = if v < b then (1 : Int) else 2
     rw [if_pos (by omega)]
  . rw [if_neg h1, if_neg h1]
    by_cases c : e = w
    . rw [if_pos c, if_pos c]
      cases hp : posE u l (v + 1) with
      | none => rfl
      | some b =>
       have := Jpt u l (v + 1) b hp
       show 2 = if b < v then (1 : Int) else 2
       rw [if_neg (by omega)]
    . rw [if_neg c, if_neg c]; exact Jov h l (v + 1)
def evM (L : List ByteArray) : List (ByteArray × AV) := addM [] 0 L
theorem JoA (u : ByteArray) (L : List ByteArray) : Jbz u (evM L) = (posE u L 0).map fun p => I p := Joz u L 0 []
theorem JmU (L : List ByteArray) (u w : ByteArray) : JaK L u w = if u = w then 0 else fstP (posE u L 0) (posE w L 0) := by
 unfold JaK
 by_cases h : u = w
 . rw [if_pos h, if_pos h]
 . rw [if_neg h, if_neg h, Jov h L 0]
def mI (N : List (ByteArray × Nat)) : List (ByteArray × AV) := N.map fun q => (q.1, I q.2)
theorem Jk1 (N : List (ByteArray × Nat)) (e : ByteArray) (v : Nat) : mI N ++ [(e, I v)] = mI (N ++ [(e, v)]) := by unfold mI; rw [L0Z]; rfl
section
variable (p : Nat -> Bool) (N : List (ByteArray × Nat))
@[go_sem] theorem Jx1 : AV.namesL p ((mI N).map entS) = false := by
 unfold mI; rw [L17]; exact Jal p N _ fun _ => rfl
end
theorem JxV {e : ByteArray} {v : AV} {N : List (ByteArray × Nat)} (h : Jbz e (mI N) = some v) : ∃ n : Nat, v = I n := by
 obtain ⟨q, _, b⟩ := L08.1 (JjO h)
 cases b; exact ⟨q.2, rfl⟩
section
variable (p : Nat -> Bool) (es l : List AV) (σ : Jac)
@[go_sem] theorem JyU : Jat (.mp es :: l) = Jat l := rfl
@[go_sem] theorem JBF : JbC σ p (.mp es) = True := by simp [JbC, AV.namesB]
@[go_sem] theorem JBJ : expo σ p (.mp es) = .mp es := rfl
end
theorem Jqb : prog.underlying 128 = some (.map 9 3) := by kernel_rfl
theorem Jr8 : prog.underlying 9 = some .string := by kernel_rfl
theorem tz_i : tz prog 3 = some (.int .i64 0) := by kernel_rfl
theorem JnK : ∀ (L : List ByteArray) (v : Nat) (N : List (ByteArray × Nat)), ∃ b, addM (mI N) v L = mI b
 | [], v, N => ⟨N, rfl⟩
 | e :: l, v, N => by
  rw [addM]
  cases Jbz e (mI N) with
  | some a => exact JnK l (v + 1) N
  | none => simp only; rw [Jk1]; exact JnK l (v + 1) _
theorem Jez (L : List ByteArray) : ∃ N, evM L = mI N := JnK L 0 []
set_option maxHeartbeats 1000000 in
theorem Jlc (key : ByteArray) (p : Pt) (hp : PtOK p) : Ev prog 61 [Str key, PTP p] (.tup [.mp ((evM (evF key p)).map entS), B (Jbj key p)]) := by
  have c1 := Jii key p hp
  have he : evF key p = if Jbj key p = true then preF p else [] := rfl
  rw [he]; clear he
  obtain ⟨⟨c, n, r, s⟩, l⟩ := p
  obtain ⟨hp1, hp2, hp3⟩ := hp
  have hpre : preF ⟨⟨c, n, r, s⟩, l⟩ = preN 0 l := rfl
  rw [hpre]
  simp only at *
  generalize Jbj key ⟨⟨c, n, r, s⟩, l⟩ = g at *
  refine EW [3, 12] func61 ?_
  simp -implicitDefEqProofs (disch := omega) only [go_sem, ntmps61]
  refine JhG ?_
  simp -implicitDefEqProofs (disch := omega) only [go_sem]
  refine Jaa c1 ?_
  cases g with
  | false =>
    rw [if_neg (by decide)]
    simp -implicitDefEqProofs (disch := omega) only [go_sem]
    refine Jay Plain.mono [130023600] ?_
    simp -implicitDefEqProofs (disch := omega) only [go_sem]; simp -implicitDefEqProofs (disch := omega) only [go_sem, results61]; try rfl
  | true =>
  rw [if_pos rfl]
  obtain ⟨FM, hFM⟩ : ∃ FM, evM (preN 0 l) = FM := ⟨_, rfl⟩
  rw [hFM]
  have hFM : FM = addM (mI []) 0 (preN 0 (l.drop 0)) := hFM.symm
  simp -implicitDefEqProofs (disch := omega) only [go_sem]
  refine Jag (fun k E σ => ∃ (i : Nat) (N : List (ByteArray × Nat)), i + k = l.length /\ FM = addM (mI N) i (preN i (l.drop i)) /\ E 6 = .mref 130023600 /\ E 18 = ITS l /\ E 19 = I l.length /\ E 20 = I i /\ σ 130023600 = some ⟨128, 0, (mI N).map entS⟩) l.length ⟨0, [], by omega, hFM, ?_⟩ ?_
  . simp -implicitDefEqProofs (disch := omega) only [go_sem]
    exact ⟨rfl, rfl⟩
  rintro k E σ ⟨i, N, hk, hx, e6, e18, e19, e20, m6⟩
  simp -implicitDefEqProofs (disch := omega) only [go_sem, e6, e18, e19, e20, m6]
  have fin : ∀ (N : List (ByteArray × Nat)), FM = mI N -> True := fun _ _ => trivial
  refine Jab (fun hc => ?_) (fun hc => ?_)
  . have hi : i < l.length := by omega
    have hdec : l.length - (i + 1) < k /\ i + 1 + (l.length - (i + 1)) = l.length := by omega
    rw [JaY l i hi, preN] at hx; simp -implicitDefEqProofs (disch := omega) only [go_sem, e6, e18, e19, e20, m6]
    refine Jab (fun h1 => ?_) (fun h1 => ?_)
    . rw [if_neg (by omega)] at hx
      have hx : FM = mI N := hx
      subst hx; simp -implicitDefEqProofs (disch := omega) only [go_sem, e6, e18, e19, e20, m6]
      refine Jay Plain.mono [130023600] ?_
      simp -implicitDefEqProofs (disch := omega) only [go_sem, e6, e18, e19, e20, m6]; simp -implicitDefEqProofs (disch := omega) only [go_sem, e6, e18, e19, e20, m6, results61]
    . rw [if_pos (by omega), addM] at hx
      simp -implicitDefEqProofs (disch := omega) only [go_sem, e6, e18, e19, e20, m6]
      refine Jm6 (kt := 9) (et := 3) (id := 130023600) (e := 128) (l := mI N) (n := (gd l i).e) ?_ ?_ ?_ Jqb Jr8 tz_i (fun v hv => ?_) (fun hv => ?_)
      . simp -implicitDefEqProofs (disch := omega) only [go_sem, e6, e18, e19, e20, m6]
      . simp -implicitDefEqProofs (disch := omega) only [go_sem, e6, e18, e19, e20, m6]
      . simp -implicitDefEqProofs (disch := omega) only [go_sem, e6, e18, e19, e20, m6]
      . rw [hv] at hx
        obtain ⟨v', rfl⟩ := JxV hv
        simp only at hx
        simp -implicitDefEqProofs (disch := omega) only [go_sem, e6, e18, e19, e20, m6]
        refine Jad (l.length - (i + 1)) hdec.1 ⟨i + 1, N, hdec.2, hx, ?_⟩
        simp -implicitDefEqProofs (disch := omega) only [go_sem, e6, e18, e19, e20, m6]; try rfl
      . rw [hv] at hx
        simp only at hx
        rw [Jk1] at hx; have hput := (Jmf (I i) hv).trans (Jk1 ..); simp -implicitDefEqProofs (disch := omega) only [go_sem, e6, e18, e19, e20, m6]
        refine JiI (kt := 9) (et := 3) (id := 130023600) (e := 128) (l := mI N) (n := (gd l i).e) ?_ ?_ ?_ Jqb Jr8 ?_
        . simp -implicitDefEqProofs (disch := omega) only [go_sem, e6, e18, e19, e20, m6]
        . simp -implicitDefEqProofs (disch := omega) only [go_sem, e6, e18, e19, e20, m6]
        . simp -implicitDefEqProofs (disch := omega) only [go_sem, e6, e18, e19, e20, m6]
        . simp -implicitDefEqProofs (disch := omega) only [go_sem, e6, e18, e19, e20, m6]; rw [hput]
          refine Jad (l.length - (i + 1)) hdec.1 ⟨i + 1, N ++ [((gd l i).e, i)], hdec.2, hx, ?_⟩
          simp -implicitDefEqProofs (disch := omega) only [go_sem, e6, e18, e19, e20, m6]; try rfl
  . obtain rfl : i = l.length := by omega
    rw [L0K] at hx
    have hx : FM = mI N := hx
    subst hx; simp -implicitDefEqProofs (disch := omega) only [go_sem, e6, e18, e19, e20, m6]
    refine Jay Plain.mono [130023600] ?_
    simp -implicitDefEqProofs (disch := omega) only [go_sem, e6, e18, e19, e20, m6]; simp -implicitDefEqProofs (disch := omega) only [go_sem, e6, e18, e19, e20, m6, results61]
theorem JhF {S : Sp} {dst : Option Nat} {t ty kt et : TypeId} {x y : Operand} {K : Env -> Jac -> Prop} {E : Env} {σ : Jac} {l : List (ByteArray × AV)} {n : ByteArray} {o : Option Nat}
 (d : Jbz n l = o.map fun p => I p) (i : ev E x = .mp (l.map entS)) (j : ev E y = .v (.string n)) (g : S.P.underlying t = some (.map kt et)) (f : S.P.underlying kt = some .string) (k : tz S.P et = some (.int .i64 0))
 (h : K (updO E dst (.tup [I (o.getD 0 : Nat), B o.isSome])) σ)
 (c : (dst.all (decide <| · < S.N) && Op.low S.N (.lookup t x y true)) = true := by kernel_rfl) : semD S dst (.lookup t x y true) ty K E σ := by
 refine Jm5 i j g f k (fun v b => ?_) (fun b => ?_) c
 . cases o with
   | none => rw [d] at b; cases b
   | some a =>
    rw [d] at b
    cases b
    exact h
 . cases o with
   | some a => rw [d] at b; cases b
   | none => exact h
theorem Js0 : prog.underlying 128 = some (.map 9 3) := by kernel_rfl
theorem Jis (L : List ByteArray) (u w : ByteArray) : Ev prog 62 [.mp ((evM L).map entS), Str u, Str w] (I (JaK L u w)) := by
 have f := JoA u L; have g := JoA w L; have c := JmU L u w; generalize JaK L u w = z at *; generalize evM L = M at *; generalize posE u L 0 = x at *; generalize posE w L 0 = y at *
 have i : ((u.toList == w.toList)) = decide (u = w) := Jel u w
 refine EV func62 ?_
 simp -implicitDefEqProofs (disch := omega) only [go_sem, ntmps62]
 refine JhF (l := M) (n := u) (kt := 9) (et := 3) f ?_ ?_ Js0 Jr8 tz_i ?_
 . simp -implicitDefEqProofs (disch := omega) only [go_sem]
 . simp -implicitDefEqProofs (disch := omega) only [go_sem]
 simp -implicitDefEqProofs (disch := omega) only [go_sem]
 refine JhF (l := M) (n := w) (kt := 9) (et := 3) g ?_ ?_ Js0 Jr8 tz_i ?_
 . simp -implicitDefEqProofs (disch := omega) only [go_sem]
 . simp -implicitDefEqProofs (disch := omega) only [go_sem]
 simp -implicitDefEqProofs (disch := omega) only [go_sem, i]
 refine Jab (fun d => ?_) (fun d => ?_)
 . rw [if_pos d] at c; subst c; simp -implicitDefEqProofs (disch := omega) only [go_sem, results62]
 rw [if_neg d] at c
 cases x with
 | none => cases y with
  | none => subst c; simp -implicitDefEqProofs (disch := omega) only [go_sem, Option.isSome, Option.getD, results62]; try rfl
  | some b => subst c; simp -implicitDefEqProofs (disch := omega) only [go_sem, Option.isSome, Option.getD, results62]; try rfl
 | some a => cases y with
  | none => subst c; simp -implicitDefEqProofs (disch := omega) only [go_sem, Option.isSome, Option.getD, results62]; try rfl
  | some b =>
   simp -implicitDefEqProofs (disch := omega) only [go_sem, Option.isSome, Option.getD]
   refine Jab (fun h => ?_) (fun h => ?_)
   . have : fstP (some a) (some b) = 1 := if_pos (by omega)
     rw [this] at c; subst c; simp -implicitDefEqProofs (disch := omega) only [go_sem, results62]
   . have : fstP (some a) (some b) = 2 := if_neg (by omega)
     rw [this] at c; subst c; simp -implicitDefEqProofs (disch := omega) only [go_sem, results62]
theorem Jcf (key : ByteArray) (p : Pt) (u w : ByteArray) (f : PtOK p) : Ev prog 19 [Str key, PTP p, Str u, Str w] (I (JaK (evF key p) u w)) := by
 have b := Jlc key p f; have c := Jis (evF key p) u w
 obtain ⟨N, d⟩ := Jez (evF key p)
 rw [d] at b c; generalize evF key p = L at *; generalize JaK L u w = z at *; generalize Jbj key p = g at *
 refine EV func19 ?_
 simp -implicitDefEqProofs (disch := omega) only [go_sem, ntmps19]
 refine Jaa b ?_
 simp -implicitDefEqProofs (disch := omega) only [go_sem]
 refine Jaa c ?_
 simp -implicitDefEqProofs (disch := omega) only [go_sem, results19]
def bilW (o : Option Sn) (f : Int) (b c : Option Sn) : (Int × Int) × Int := match o with
 | some s => (JfP s, 0)
 | none =>
  if f = 1 then (match b with | some s => (JfP s, 1) | none => ((0, 0), 0))
  else if f = 2 then (match c with | some s => (JfP s, 2) | none => ((0, 0), 0))
  else ((0, 0), 0)
theorem JqG (L : List ByteArray) (a b : Ck) (l : Lg) : Jes L a b l = bilW (Jeq a b l) (JaK L (recF l 1) (recF l 2)) (Jde a l.g) (Jde b l.k) := rfl
abbrev biV (w : (Int × Int) × Int) : AV := .tup [WNP w.1, I w.2]
set_option maxHeartbeats 2000000 in
theorem Jji (L : List ByteArray) (a b : Ck) (l : Lg) (hl : legF l = true) (ha : a.r.length <= 9223372036854775807) (hb : b.r.length <= 9223372036854775807) : Ev prog 76 [.mp ((evM L).map entS), CKP a, CKP b, LGP l] (biV (Jes L a b l)) := by
  have c1 := Jga a b l ha hb; have c2 := JhT l 1; have c3 := JhT l 2
  have r1 : recV l 1 = .tup [Str (recF l 1), I 0] := if_pos ⟨hl, by omega⟩
  have r2 : recV l 2 = .tup [Str (recF l 2), I 0] := if_pos ⟨hl, by omega⟩
  rw [r1] at c2; rw [r2] at c3; have c4 := Jis L (recF l 1) (recF l 2); have c5 := JdS a l.g ha; have c6 := JdS b l.k hb; have hf := Jgv L (recF l 1) (recF l 2); rw [JqG]
  obtain ⟨N, hN⟩ := Jez L
  rw [hN] at c4 ⊢; clear r1 r2; generalize Jeq a b l = o at *; generalize JaK L (recF l 1) (recF l 2) = f at *; generalize recF l 1 = R1 at *; generalize recF l 2 = R2 at *; generalize Jde a l.g = sa at *; generalize Jde b l.k = sb at *; obtain ⟨ad, ar⟩ := a; obtain ⟨bd, br⟩ := b; obtain ⟨lf, lt, lg, lk⟩ := l
  simp only at *
  refine EW [7, 9] func76 ?_
  simp -implicitDefEqProofs (disch := omega) only [go_sem, ntmps76]
  cases o with
  | some s =>
    refine Jaa c1 ?_
    simp -implicitDefEqProofs (disch := omega) only [go_sem]
    refine Jaa (Jih s) ?_
    simp -implicitDefEqProofs (disch := omega) only [go_sem, results76]; try rfl
  | none =>
  refine Jaa c1 ?_
  simp -implicitDefEqProofs (disch := omega) only [go_sem]
  refine Jaa c2 ?_
  simp -implicitDefEqProofs (disch := omega) only [go_sem]
  refine Jaa c3 ?_
  simp -implicitDefEqProofs (disch := omega) only [go_sem]
  refine Jaa c4 ?_
  simp -implicitDefEqProofs (disch := omega) only [go_sem]
  refine JdN (fun D E σ => E 0 = .mp ((mI N).map entS) /\ E 5 = .ptr 161480784 2 0 0 /\ E 6 = .ptr 161480800 2 0 0 /\ E 7 = .ptr 161480816 6 0 0 /\ E 8 = .ptr 161480832 2 0 0 /\ E 16 = I f /\ σ 161480784 = some ⟨58, 2, [.agg [I ad, RDS ar]]⟩ /\ σ 161480800 = some ⟨58, 2, [.agg [I bd, RDS br]]⟩ /\ σ 161480816 = some ⟨33, 6, [.agg [I lf, I lt, I lg.b, I lg.e, I lk.b, I lk.e]]⟩ /\ σ 161480832 = some ⟨66, 2, [.agg [I 0, I 0]]⟩ /\ (D 5 = true -> D 3 = true) /\ (D 6 = true -> D 4 = true) /\ (D 3 = true -> D 5 = false -> σ 161480976 = some ⟨58, 2, [.agg [I 0, .v (.slice none 0 0)]]⟩) /\ (D 5 = true -> σ 161480976 = some ⟨58, 2, [.agg [I ad, RDS ar]]⟩) /\ (D 4 = true -> D 6 = false -> σ 161480992 = some ⟨31, 2, [.agg [I 0, I 0]]⟩) /\ (D 6 = true -> σ 161480992 = some ⟨31, 2, [.agg [I lg.b, I lg.e]]⟩) /\ (D 0 = true -> E 45 = .agg [I ad, RDS ar]) /\ (D 1 = true -> E 46 = .ptr 161480816 6 0 2) /\ (D 2 = true -> E 47 = .agg [I lg.b, I lg.e]) /\ (D 3 = true -> E 17 = .ptr 161480976 2 0 0) /\ (D 4 = true -> E 18 = .ptr 161480992 2 0 0)) ?_ ?_ ?_
  . simp -implicitDefEqProofs (disch := omega) only [go_sem, false_and, and_self]; try simp
  . simp only [JeV, depK, Region.binds, eq_self, forall_const, and_true]
    repeat' apply And.intro
    all_goals
      rintro D E σ ⟨e0, e5, e6, e7, e8, e16, m5, m6, m7, m8, c5_3, c6_4, m0_0, m0_1, m1_0, m1_1, j0, j1, j2, j3, j4⟩ hd
      have k := And.intro trivial <| And.intro (cK c5_3) <| And.intro (cK c6_4) trivial
      simp -implicitDefEqProofs (disch := first | assumption | (simp only [hd, k]; done) | omega) only [go_sem, e0, e5, e6, e7, e8, e16, m5, m6, m7, m8, m0_0, m0_1, m1_0, m1_1, j0, j1, j2, j3, j4, false_and, and_self]
      repeat' apply And.intro
      all_goals first | assumption | (intro _; assumption) | trivial | (simp -implicitDefEqProofs (contextual := true) (disch := first | assumption | omega) only [go_sem, m0_0, m0_1, m1_0, m1_1, j0, j1, j2, j3, j4, hd, c5_3, c6_4, k, implies_true, forall_const, false_implies, true_implies]; done) | (intro h; intros; exfalso; simp (maxDischargeDepth := 9) [hd, k] at h; done) | (intros; contradiction) | trace_state
  . rintro D E σ hD ⟨e0, e5, e6, e7, e8, e16, m5, m6, m7, m8, c5_3, c6_4, m0_0, m0_1, m1_0, m1_1, j0, j1, j2, j3, j4⟩
    have g0 := m0_1 (hD 5 (by decide))
    have g1 := m1_1 (hD 6 (by decide))
    have q0 := j0 (hD 0 (by decide))
    have q1 := j1 (hD 1 (by decide))
    have q2 := j2 (hD 2 (by decide))
    have q3 := j3 (hD 3 (by decide))
    have q4 := j4 (hD 4 (by decide))
    clear c5_3 c6_4 m0_0 m0_1 m1_0 m1_1 j0 j1 j2 j3 j4 hD
    have hfc : f = 0 \/ f = 1 \/ f = 2 := by omega
    rcases hfc with rfl | rfl | rfl
    . cases sa with
      | none =>
        simp -implicitDefEqProofs (disch := omega) only [go_sem, e0, e5, e6, e7, e8, e16, m5, m6, m7, m8, q3, q4, g0, g1]
        refine Jaa c5 ?_
        simp -implicitDefEqProofs (disch := omega) only [go_sem, e0, e5, e6, e7, e8, e16, m5, m6, m7, m8, q3, q4, g0, g1, results76]; try rfl
      | some s =>
        simp -implicitDefEqProofs (disch := omega) only [go_sem, e0, e5, e6, e7, e8, e16, m5, m6, m7, m8, q3, q4, g0, g1]
        refine Jaa c5 ?_
        simp -implicitDefEqProofs (disch := omega) only [go_sem, e0, e5, e6, e7, e8, e16, m5, m6, m7, m8, q3, q4, g0, g1, results76]; try rfl
    . cases sa with
      | none =>
        simp -implicitDefEqProofs (disch := omega) only [go_sem, e0, e5, e6, e7, e8, e16, m5, m6, m7, m8, q3, q4, g0, g1]
        refine Jaa c5 ?_
        simp -implicitDefEqProofs (disch := omega) only [go_sem, e0, e5, e6, e7, e8, e16, m5, m6, m7, m8, q3, q4, g0, g1, results76]; try rfl
      | some s =>
        simp -implicitDefEqProofs (disch := omega) only [go_sem, e0, e5, e6, e7, e8, e16, m5, m6, m7, m8, q3, q4, g0, g1]
        refine Jaa c5 ?_
        simp -implicitDefEqProofs (disch := omega) only [go_sem, e0, e5, e6, e7, e8, e16, m5, m6, m7, m8, q3, q4, g0, g1]
        refine Jaa (Jih s) ?_
        simp -implicitDefEqProofs (disch := omega) only [go_sem, e0, e5, e6, e7, e8, e16, m5, m6, m7, m8, q3, q4, g0, g1, results76]; try rfl
    . simp -implicitDefEqProofs (disch := omega) only [go_sem, e0, e5, e6, e7, e8, e16, m5, m6, m7, m8, q3, q4, g0, g1]
      refine JdN (fun D E σ => E 0 = .mp ((mI N).map entS) /\ E 5 = .ptr 161480784 2 0 0 /\ E 6 = .ptr 161480800 2 0 0 /\ E 7 = .ptr 161480816 6 0 0 /\ E 8 = .ptr 161480832 2 0 0 /\ E 16 = I 2 /\ σ 161480784 = some ⟨58, 2, [.agg [I ad, RDS ar]]⟩ /\ σ 161480800 = some ⟨58, 2, [.agg [I bd, RDS br]]⟩ /\ σ 161480816 = some ⟨33, 6, [.agg [I lf, I lt, I lg.b, I lg.e, I lk.b, I lk.e]]⟩ /\ σ 161480832 = some ⟨66, 2, [.agg [I 0, I 0]]⟩ /\ E 17 = .ptr 161480976 2 0 0 /\ E 18 = .ptr 161480992 2 0 0 /\ (D 3 = false -> σ 161480976 = some ⟨58, 2, [.agg [I ad, RDS ar]]⟩) /\ (D 3 = true -> σ 161480976 = some ⟨58, 2, [.agg [I bd, RDS br]]⟩) /\ (D 4 = false -> σ 161480992 = some ⟨31, 2, [.agg [I lg.b, I lg.e]]⟩) /\ (D 4 = true -> σ 161480992 = some ⟨31, 2, [.agg [I lk.b, I lk.e]]⟩) /\ (D 0 = true -> E 50 = .agg [I bd, RDS br]) /\ (D 1 = true -> E 51 = .ptr 161480816 6 0 4) /\ (D 2 = true -> E 52 = .agg [I lk.b, I lk.e])) ?_ ?_ ?_
      . simp -implicitDefEqProofs (disch := omega) only [go_sem, q3, q4, g0, g1, false_and, and_self]
        refine ⟨e0, e5, e6, e7, e8, e16, m5, m6, m7, m8, ?_⟩; simp
      . simp only [JeV, depK, Region.binds, eq_self, forall_const, and_true]
        repeat' apply And.intro
        all_goals
          rintro D E σ ⟨e0, e5, e6, e7, e8, e16, m5, m6, m7, m8, e17, e18, m0_0, m0_1, m1_0, m1_1, j0, j1, j2⟩ hd
          simp -implicitDefEqProofs (disch := first | assumption | (simp only [hd]; done) | omega) only [go_sem, e0, e5, e6, e7, e8, e16, m5, m6, m7, m8, e17, e18, m0_0, m0_1, m1_0, m1_1, j0, j1, j2, q3, q4, g0, g1, false_and, and_self]
          repeat' apply And.intro
          all_goals first | assumption | (intro _; assumption) | trivial | (simp -implicitDefEqProofs (contextual := true) (disch := first | assumption | omega) only [go_sem, m0_0, m0_1, m1_0, m1_1, j0, j1, j2, hd, implies_true, forall_const, false_implies, true_implies]; done) | (intros; contradiction) | trace_state
      . rintro D E σ hD ⟨e0, e5, e6, e7, e8, e16, m5, m6, m7, m8, e17, e18, m0_0, m0_1, m1_0, m1_1, j0, j1, j2⟩
        have g0 := m0_1 (hD 3 (by decide))
        have g1 := m1_1 (hD 4 (by decide))
        have q0 := j0 (hD 0 (by decide))
        have q1 := j1 (hD 1 (by decide))
        have q2 := j2 (hD 2 (by decide))
        clear m0_0 m0_1 m1_0 m1_1 j0 j1 j2 hD
        cases sb with
        | none =>
          simp -implicitDefEqProofs (disch := omega) only [go_sem, e0, e5, e6, e7, e8, e16, m5, m6, m7, m8, e17, e18, g0, g1]
          refine Jaa c6 ?_
          simp -implicitDefEqProofs (disch := omega) only [go_sem, e0, e5, e6, e7, e8, e16, m5, m6, m7, m8, e17, e18, g0, g1, results76]; try rfl
        | some s =>
          simp -implicitDefEqProofs (disch := omega) only [go_sem, e0, e5, e6, e7, e8, e16, m5, m6, m7, m8, e17, e18, g0, g1]
          refine Jaa c6 ?_
          simp -implicitDefEqProofs (disch := omega) only [go_sem, e0, e5, e6, e7, e8, e16, m5, m6, m7, m8, e17, e18, g0, g1]
          refine Jaa (Jih s) ?_
          simp -implicitDefEqProofs (disch := omega) only [go_sem, e0, e5, e6, e7, e8, e16, m5, m6, m7, m8, e17, e18, g0, g1, results76]; try rfl
abbrev bi3 (w : (Int × Int) × Int) : AV := .tup [WNP w.1, I w.2, I 0]
theorem Je2 (a b : Ck) (l : Lg) (key : ByteArray) (p : Pt) (h : legF l = true) (m : PtOK p) (j : a.r.length <= 9223372036854775807) (k : b.r.length <= 9223372036854775807) : Ev prog 30 [CKP a, CKP b, LGP l, Str key, PTP p] (bi3 (Jes (evF key p) a b l)) := by
 have c := JfZ l; rw [h] at c; have d := Jlc key p m; have f := Jji (evF key p) a b l h j k
 obtain ⟨N, i⟩ := Jez (evF key p)
 rw [i] at d f; generalize Jes (evF key p) a b l = W at *; generalize evF key p = L at *; generalize Jbj key p = g at *
 obtain ⟨⟨o, q⟩, s⟩ := W
 refine EV func30 ?_
 simp -implicitDefEqProofs (disch := omega) only [go_sem, ntmps30]
 refine Jaa c ?_
 simp -implicitDefEqProofs (disch := omega) only [go_sem]
 refine Jaa d ?_
 simp -implicitDefEqProofs (disch := omega) only [go_sem]
 refine Jaa f ?_
 simp -implicitDefEqProofs (disch := omega) only [go_sem, results30]
def bitB (x : Int) (i : Nat) : Bool := (x.fdiv (2 ^ (min i 64))).tmod 2 == 1
def indF (x : Int) : Nat -> List Int
 | 0 => []
 | i + 1 => indF x i ++ if bitB x i = true then [(i : Int)] else []
theorem JeD (x : Int) : ∀ i, (indF x i).length <= i
 | 0 => L09 _
 | i + 1 => by
  rw [indF, L07]
  have := JeD x i
  split <;> simp <;> omega
set_option maxHeartbeats 2000000 in
theorem Jhz (c : Int) (n : Nat) (F : R64 c) (K : n <= 1000) : Ev prog 40 [I c, I n] (SL (indF (Jaf c 65536) n)) := by
 have D := JeM c 65536 F (by omega)
 have B := Jai (c := c) (n := 65536) (by omega)
 generalize Jaf c 65536 = x at *
 refine EW [7] func40 ?_
 simp -implicitDefEqProofs (disch := omega) only [go_sem, ntmps40]
 refine Jag (fun k E C => ∃ i : Nat, i + k = n /\ E 0 = I c /\ E 1 = I n /\ E 6 = I i /\ E 5 = .own 85983312 1 0 (indF x i).length /\ C 85983312 = some ⟨3, 1, (indF x i).map I⟩) n ⟨0, by omega, ?_⟩ ?_
 . simp -implicitDefEqProofs (disch := omega) only [go_sem]
   try exact ⟨rfl, rfl, rfl⟩
 rintro k E C ⟨i, J, d, l, g, f, j⟩
 simp -implicitDefEqProofs (disch := omega) only [go_sem, d, l, f, g, j]
 refine Jab (fun h => ?_) (fun h => ?_)
 . have s := JeD x i
   have u : indF x (i + 1) = indF x i ++ if bitB x i = true then [(i : Int)] else [] := rfl
   have t : bitB x i = ((x.fdiv (2 ^ (min i 64))).tmod 2 == 1) := rfl
   have b : n - (i + 1) < k /\ i + 1 + (n - (i + 1)) = n := by omega
   simp -implicitDefEqProofs (disch := omega) only [go_sem, d, l, f, g, j]
   refine Jaa D ?_
   have z : ((i : Int)).toNat = i := by omega
   simp -implicitDefEqProofs (disch := omega) only [go_sem, d, l, f, g, j, z]
   have G : i <= 1000 := by omega
   generalize x.fdiv (2 ^ min i 64) = y at *; generalize y.tmod 2 = M at *
   refine Jab (fun o => ?_) (fun o => ?_)
   . have q : bitB x i = true := by rw [t]; exact beq_iff_eq.2 o
     rw [if_pos q] at u; clear t o B q; generalize w : indF x (i + 1) = H at *; generalize indF x i = L at *
     have m : L.take L.length = L := L0c
     simp -implicitDefEqProofs (disch := omega) only [go_sem, d, f, g]; generalize A : Ji9 _ k = Q; simp -implicitDefEqProofs (disch := omega) only [go_sem, j]; rw [<- A]; clear A
     refine Jad (n - (i + 1)) b.1 ⟨i + 1, b.2, ?_⟩
     rw [w, u]; simp -implicitDefEqProofs (disch := omega) only [go_sem, d, l, f, g, j, L07, L0g, L0x]; try simp
   . have p : ¬ bitB x i = true := fun h => o (beq_iff_eq.1 (t ▸ h))
     rw [if_neg p, L0F] at u; clear t o B p; simp -implicitDefEqProofs (disch := omega) only [go_sem, d, l, f, g, j]
     refine Jad (n - (i + 1)) b.1 ⟨i + 1, b.2, ?_⟩
     rw [u]; simp -implicitDefEqProofs (disch := omega) only [go_sem, d, l, f, g, j]; try rfl
 . obtain rfl : i = n := by omega
   have s := JeD x i; generalize indF x i = L at *
   have m : L.take L.length = L := L0c
   simp -implicitDefEqProofs (disch := omega) only [go_sem, d, l, f, g, j]
   refine Jay Plain.mono [85983312] ?_
   simp -implicitDefEqProofs (disch := omega) only [go_sem, d, l, f, g, j, m, L04]; simp -implicitDefEqProofs (disch := omega) only [go_sem, d, l, f, g, j, m, L04, results40]
def oneC : Ck := ⟨0, [⟨0, 1000, 1000⟩]⟩
def twoC : Ck := ⟨0, [⟨500, 1000, 1004⟩]⟩
theorem Jyd : Ev prog 46 [] (CKP oneC) := by
 refine EV func46 ?_
 simp -implicitDefEqProofs (disch := omega) only [go_sem, ntmps46, results46]; try rfl
theorem JyX : Ev prog 47 [] (CKP twoC) := by
 refine EV func47 ?_
 simp -implicitDefEqProofs (disch := omega) only [go_sem, ntmps47, results47]; try rfl
theorem Jqh (a b : Int) : Ev prog 48 [I a, I b] (WNP (a, b)) := by
 refine EV func48 ?_
 simp -implicitDefEqProofs (disch := omega) only [go_sem, ntmps48, results48]
theorem JjX (l : List Int) (i : Nat) (k : l.length <= 9223372036854775807) (hi : i <= 1000) : Ev prog 51 [SL l, I i] (I (numF l i)) := by
 have g : ((l.length : Int) == 0) = decide (l.length = 0) := by rw [L1k]; simp
 refine EV func51 ?_
 simp -implicitDefEqProofs (disch := omega) only [go_sem, ntmps51]
 refine Jab (fun h => ?_) (fun h => ?_)
 . have b : l = [] := L0L (by omega)
   have c : numF l i = 0 := if_pos b
   rw [c]; simp -implicitDefEqProofs (disch := omega) only [go_sem, results51]
 . have b : l ≠ [] := fun e => h (by rw [e]; rfl)
   have c : numF l i = gd l (i % l.length) := if_neg b
   rw [c]
   have f : ((i : Int)).tmod l.length = ((i % l.length : Nat) : Int) := by rw [L13 (by omega)]; omega
   have d : i % l.length < l.length := L1e _ (by omega)
   generalize i % l.length = j at *; simp -implicitDefEqProofs (disch := omega) only [go_sem, f, results51]
theorem JlY : Ev prog 49 [] (Str (keyF 0)) := by
 have c := JoV 0 (by omega)
 refine EV func49 ?_
 simp -implicitDefEqProofs (disch := omega) only [go_sem, ntmps49]
 refine Jaa c ?_
 simp -implicitDefEqProofs (disch := omega) only [go_sem, results49]
theorem JtL {P : Program} {f : FuncId} {args : List AV} {cs c : List AV} (h : Ev P f args (.agg cs)) (m : (AV.agg cs).asIf (.agg c)) : Ev P f args (.agg c) := by
 intro b D o
 obtain ⟨rfl, rfl⟩ := o
 obtain ⟨j, k⟩ := h b _ ⟨rfl, rfl⟩
 refine ⟨j, fun w i vs q p g => ?_⟩
 refine (k w i vs q p g).mono fun B E s => ?_
 obtain ⟨y, rfl, u, d, z, A, C, ⟨rfl, t⟩, l⟩ := s
 exact ⟨_, rfl, u, d, z, A, none, ⟨rfl, m _ _ _ t⟩, l⟩
abbrev HPS (l : List (Int × Int)) : AV := .sl 2 (l.map fun h => .agg [I h.1, I h.2])
abbrev CRS (l : List Cr) : AV := .sl 4 (l.map CRP)
abbrev QP (q : Q4) : AV := .agg [I q.a, I q.b, I q.c, I q.d]
abbrev QL (x : List Q4) : AV := .sl 4 (x.map QP)
abbrev NMP (x : Nm) : AV := .agg [HPS x.hops, QTS x.legs, CRS x.crs, SL x.bases, QL x.rates, SL x.offs, SL x.wit]
theorem Jsd : (AV.agg [I 0, I 0, .v (.slice none 0 0), .v (.slice none 0 0)]).asIf (CRP ⟨0, 0, [], []⟩) := by
 intro w k y h
 cases h with
 | agg _ ys i g d =>
  refine .agg _ ys i g fun j c y b f => ?_
  match j with
  | 0 => exact d 0 c y b f
  | 1 => exact d 1 c y b f
  | 2 =>
   have := d 2 _ y rfl f
   cases b
   cases this
   exact .slnil ..
  | 3 =>
   have := d 3 _ y rfl f
   cases b
   cases this
   exact .slnil ..
  | j + 4 => simp at b
section
variable (p : Nat -> Bool) (l : List Cr)
@[go_sem] theorem JvX : AV.namesL p (l.map CRP) = false := Jal p l CRP fun _ => rfl
@[go_sem] theorem JwD : JbA 4 (l.map CRP) = true := JaG 4 l CRP fun _ => ⟨rfl, rfl⟩
end
theorem Jgo (x : Nm) (c : Nat) (u : x.crs.length <= 9223372036854775807) (t : c <= 1000) : Ev prog 50 [NMP x, I c] (CRP (crsF x c)) := by
 have s : ((x.crs.length : Int) == 0) = decide (x.crs.length = 0) := by rw [L1k]; simp
 by_cases hn : x.crs = []
 . have f : crsF x c = ⟨0, 0, [], []⟩ := if_pos hn
   rw [f]
   refine JtL ?_ Jsd
   obtain ⟨k, l, b, m, o, p, q⟩ := x
   simp only at *
   subst hn
   refine EV func50 ?_
   simp -implicitDefEqProofs (disch := omega) only [go_sem, ntmps50, L0G, L0x]
   refine Jab (fun h => ?_) (fun h => absurd rfl h)
   simp -implicitDefEqProofs (disch := omega) only [go_sem, results50]
 . have f : crsF x c = gd x.crs (c % x.crs.length) := if_neg hn
   have d : 0 < x.crs.length := L18.2 hn
   rw [f]; obtain ⟨k, l, b, m, o, p, q⟩ := x
   simp only at *
   have i : ((c : Int)).tmod b.length = ((c % b.length : Nat) : Int) := by rw [L13 (by omega)]; omega
   have g : c % b.length < b.length := L1e _ d
   generalize c % b.length = j at *
   refine EV func50 ?_
   simp -implicitDefEqProofs (disch := omega) only [go_sem, ntmps50]
   refine Jab (fun h => absurd h (by omega)) (fun h => ?_)
   simp -implicitDefEqProofs (disch := omega) only [go_sem, i, results50]
theorem Jko (v : Nat) (f : v <= 100) : Ev prog 45 [I v] (Str (updS v)) := by
 have c : IntKind.u8.wrap (65 + (v : Int)) = ((65 + v : Nat) : Int) := by simp [IntKind.wrap, IntKind.bits, IntKind.signed]; omega
 have d : strOfNums [((65 + v : Nat) : Int)] = ⟨#[UInt8.ofNat (65 + v)]⟩ := rfl
 refine EV func45 ?_
 simp -implicitDefEqProofs (disch := omega) only [go_sem, ntmps45, c]
 refine Jcw [((65 + v : Nat) : Int)] (by simp -implicitDefEqProofs (disch := omega) only [go_sem]; try rfl) (by intro b; simp -implicitDefEqProofs (disch := omega) only [go_sem]; intro e; cases e) (e := 5) rfl rfl rfl ?_
 rw [d]; simp -implicitDefEqProofs (disch := omega) only [go_sem, results45, L0Y, L0g, L0x, L0n]; try rfl
def Q4ok (q : Q4) : Prop := R64 q.a /\ R64 q.b /\ R64 q.c /\ R64 q.d
section
variable (p : Nat -> Bool) (l : List Q4)
@[go_sem] theorem JxX : AV.namesL p (l.map QP) = false := Jal p l QP fun _ => rfl
@[go_sem] theorem Jy4 : JbA 4 (l.map QP) = true := JaG 4 l QP fun _ => ⟨rfl, rfl⟩
end
set_option maxHeartbeats 1000000 in
theorem Jp8 (b : Int) (x : List Q4) (hb : R64 b) (hx : ∀ q ∈ x, Q4ok q) (hn : x.length <= 9223372036854775807) : Ev prog 33 [I b, QL x] (TF (tfQ b x)) := by
  have p0 := Jai (c := b) (n := 2000) (by omega)
  have e0 := JaH b 2000 hb (by omega)
  have hm : tfQ b x = ⟨(x.take 4).map Jfo, Jaf b 2000⟩ := rfl
  rw [hm]; clear hm
  obtain ⟨Z, hZ⟩ : ∃ Z, (x.take 4).map Jfo = Z := ⟨_, rfl⟩
  rw [hZ]; generalize Jaf b 2000 = pb at *
  refine EW [2, 7] func33 ?_
  simp -implicitDefEqProofs (disch := omega) only [go_sem, ntmps33]
  refine Jaa e0 ?_
  simp -implicitDefEqProofs (disch := omega) only [go_sem]
  refine JaZ 71303248 71303249 0 0 159 4 (k := ⟨96, 2, [.agg [.v (.slice none 0 0), I pb]]⟩) (el := .agg [.v (.slice none 0 0), I pb]) (by simp -implicitDefEqProofs (disch := omega) only [go_sem]) (by decide) rfl rfl (by simp) (by simp -implicitDefEqProofs (disch := omega) only [go_sem]) rfl ?_
  refine Jds Plain.mono ?_
  simp -implicitDefEqProofs (disch := omega) only [go_sem]
  refine Jag (fun n E σ => ∃ i : Nat, i + n = 4 /\ i <= x.length /\ E 1 = QL x /\ E 4 = .ptr 71303232 2 0 0 /\ E 5 = .ptr 71303248 2 0 0 /\ E 6 = I i /\ σ 71303232 = some ⟨96, 2, [.agg [.v (.slice none 0 0), I 0]]⟩ /\ σ 71303248 = some ⟨96, 2, [.agg [.own 71303249 4 0 i, I pb]]⟩ /\ σ 71303249 = some ⟨159, 4, ((x.take i).map Jfo).map TP⟩) 4 ⟨0, by omega, by omega, ?_⟩ ?_
  . simp -implicitDefEqProofs (disch := omega) only [go_sem]; try rfl
  rintro n E σ ⟨i, hi, hix, e1, e4, e5, e6, m4, m5, mr⟩
  have htl : ((x.take i).map Jfo).length = i := by simp; omega
  have fin : i = 4 \/ i = x.length -> Z = (x.take i).map Jfo := fun h => by
    rw [<- hZ]
    rcases h with rfl | rfl
    . rfl
    . rw [L0c, L0a (by omega)]
  simp -implicitDefEqProofs (disch := omega) only [go_sem, e1, e4, e5, e6, m4, m5, mr, false_and, and_self]
  refine Jab (fun hc => ?_) (fun hc => ?_)
  . simp -implicitDefEqProofs (disch := omega) only [go_sem, e1, e4, e5, e6, m4, m5, mr, false_and, and_self]
    refine Jab (fun hc2 => ?_) (fun hc2 => ?_)
    . obtain ⟨q1, q2, q3, q4⟩ := hx _ (Jao x i (by omega))
      have a1 := Jai (c := (gd x i).a) (n := 127) (by omega)
      have a2 := Jai (c := (gd x i).b) (n := 48) (by omega)
      have a5 := Jai (c := (gd x i).d) (n := 2000) (by omega)
      have a6 := Jai (c := (gd x i).c) (n := 86400 - 1800 * Jaf (gd x i).b 48) (by omega)
      have c1 := JaH (gd x i).a 127 q1 (by omega)
      have c2 := JaH (gd x i).b 48 q2 (by omega)
      have c3 := JaH (gd x i).d 2000 q4 (by omega)
      have c4 := JaH (gd x i).c (86400 - 1800 * Jaf (gd x i).b 48) q3 (by omega)
      have htk : (x.take (i + 1)).map Jfo = (x.take i).map Jfo ++ [Jfo (gd x i)] := by rw [L1c, Ja2 x i (by omega)]; simp
      have hr : Jfo (gd x i) = ⟨1 + Jaf (gd x i).a 127, 1800 * Jaf (gd x i).b 48, 1800 * Jaf (gd x i).b 48 + 1 + Jaf (gd x i).c (86400 - 1800 * Jaf (gd x i).b 48), Jaf (gd x i).d 2000⟩ := rfl
      generalize (x.take i).map Jfo = q at *; generalize Jfo (gd x i) = r at *; generalize Jaf (gd x i).a 127 = u1 at *; generalize Jaf (gd x i).b 48 = u2 at *; generalize Jaf (gd x i).d 2000 = u5 at *; generalize Jaf (gd x i).c (86400 - 1800 * u2) = u6 at *
      have hqt : q.take i = q := L0a (by omega)
      simp -implicitDefEqProofs (disch := omega) only [go_sem, e1, e4, e5, e6, m4, m5, mr, false_and, and_self]
      refine Jaa c2 ?_
      simp -implicitDefEqProofs (disch := omega) only [go_sem, e1, e4, e5, e6, m4, m5, mr, false_and, and_self]
      refine Jaa c1 ?_
      simp -implicitDefEqProofs (disch := omega) only [go_sem, e1, e4, e5, e6, m4, m5, mr, false_and, and_self]
      refine Jaa c4 ?_
      simp -implicitDefEqProofs (disch := omega) only [go_sem, e1, e4, e5, e6, m4, m5, mr, false_and, and_self]
      refine Jaa c3 ?_
      simp -implicitDefEqProofs (disch := omega) only [go_sem, e1, e4, e5, e6, m4, m5, mr, htl, hqt, false_and, and_self]
      refine Jad (4 - (i + 1)) (by omega) ⟨i + 1, by omega, by omega, ?_⟩
      rw [htk, hr]; simp -implicitDefEqProofs (disch := omega) only [go_sem, e1, e4, e5, e6, m4, m5, mr, htl, hqt, false_and, and_self]; try simp
    . have hf := fin (.inl (by omega))
      rw [<- hf] at mr htl
      have hqt : Z.take i = Z := L0a (by omega)
      simp -implicitDefEqProofs (disch := omega) only [go_sem, e1, e4, e5, e6, m4, m5, mr, false_and, and_self]
      refine Jay Plain.mono [71303248, 71303249] ?_
      simp -implicitDefEqProofs (disch := omega) only [go_sem, e1, e4, e5, e6, m4, m5, mr, hqt, L04, htl]; simp -implicitDefEqProofs (disch := omega) only [go_sem, e1, e4, e5, e6, m4, m5, mr, hqt, L04, htl, results33]
  . have hf := fin (.inr (by omega))
    rw [<- hf] at mr htl
    have hqt : Z.take i = Z := L0a (by omega)
    simp -implicitDefEqProofs (disch := omega) only [go_sem, e1, e4, e5, e6, m4, m5, mr, false_and, and_self]
    refine Jay Plain.mono [71303248, 71303249] ?_
    simp -implicitDefEqProofs (disch := omega) only [go_sem, e1, e4, e5, e6, m4, m5, mr, hqt, L04, htl]; simp -implicitDefEqProofs (disch := omega) only [go_sem, e1, e4, e5, e6, m4, m5, mr, hqt, L04, htl, results33]
end Go.Proofs.YtnpbhgeffapojaaGreatDoor

/- What is shown, who is first, what is billed -/
import Derived.Test.YtlecbpkidomjbaaGreatDoorKG
set_option linter.all false
set_option maxRecDepth 100000
namespace Go.Proofs.YtlecbpkidomjbaaGreatDoor
open Go.Proofs.Tryz
open Go.Vai Go Go.Proofs
def sigB (b : ByteArray) (r : Rg) (n : Int) : Bool := decide (b.size = 32) && (regB r && decide (0 <= n /\ n <= r.l.length))
theorem Jgy {b : ByteArray} {r : Rg} {n : Int} : sigB b r n = true ↔ b.size = 32 /\ regB r = true /\ 0 <= n /\ n <= r.l.length := by
 unfold sigB; simp only [L00, decide_eq_true_iff]
theorem JhL {r : Rg} (h : regB r = true) {l : List ByteArray} (b : ∀ s ∈ l, s ∈ r.l) : ∀ s ∈ l, s.size <= 1000000 := λ s c => by
 have := (Jd6.1 h).2.2 s (b s c); omega
theorem Jmo (b : ByteArray) (r : Rg) (n : Nat) : HDP (Jiz b r n) = .agg [I r.c, I n, Str (Jcr (r.l.take n)), Str (JfQ b ⟨r.c, n, Jcr (r.l.take n), default⟩)] := rfl
theorem JvA : Str (default : ByteArray) = Str ⟨#[]⟩ := rfl
set_option maxHeartbeats 1000000 in
theorem JsV (b : ByteArray) (r : Rg) (n : Nat) (h : sigB b r n = true) : Ev prog 94 [Str b, RGP r, I n] (.tup [HDP (Jiz b r n), I 0]) := by
 obtain ⟨t, d, u, w⟩ := Jgy.1 h
 have o := Jd6.1 d
 have i := Jhk r (by omega)
 have j := JiC n 0 r.l.length
 have q : (r.l.take n).length = n := by rw [L01]; omega
 have m := Je5 _ (r.l.take n) (L08 _) (by omega) (JhL d λ s p => L0H p)
 have k := JsT b ⟨r.c, n, Jcr (r.l.take n), default⟩ (by omega) o.1 (by simp only; omega) (by simp only; rw [Jd7]; omega)
 rw [d] at i
 rw [decide_eq_true (by omega)] at j
 rw [Jmo]; simp only [HDP, JvA] at k; obtain ⟨c, l⟩ := r
 simp only at *
 generalize JfQ b ⟨c, n, Jcr (l.take n), default⟩ = S at *; generalize Jcr (l.take n) = R at *
 have g : ((n : Int)).toNat = n := by omega
 have f : ((b.size : Int) != 32) = false := by simp; omega
 refine EV func94 ?_
 simp -implicitDefEqProofs (disch := omega) only [go_sem, ntmps94, f]
 refine Jaa i ?_
 simp -implicitDefEqProofs (disch := omega) only [go_sem]
 refine Jaa j ?_
 simp -implicitDefEqProofs (disch := omega) only [go_sem, g]
 refine Jaa m ?_
 simp -implicitDefEqProofs (disch := omega) only [go_sem]
 refine Jaa k ?_
 simp -implicitDefEqProofs (disch := omega) only [go_sem, false_and, results94]
theorem JqU (b : ByteArray) (r : Rg) (n : Int) (o : r.l.length <= 9223372036854775807) (h : sigB b r n = false) : Ev prog 94 [Str b, RGP r, I n] (.tup [HDP default, I 180]) := by
 have i := Jhk r o; have j := JiC n 0 r.l.length; unfold sigB at h; obtain ⟨c, l⟩ := r
 simp only at *
 have d : ((b.size : Int) != 32) = !decide (b.size = 32) := by rw [L1c]; simp; omega
 generalize k : decide (b.size = 32) = f at *; generalize regB ⟨c, l⟩ = g at *; generalize decide (0 <= n /\ n <= l.length) = b3 at *
 have m : HDP default = .agg [I 0, I 0, .v (.string ByteArray.empty), .v (.string ByteArray.empty)] := rfl
 rw [m]
 refine EV func94 ?_
 cases f
 . simp -implicitDefEqProofs (disch := omega) only [go_sem, ntmps94, d, results94, Bool.not_false]
 simp -implicitDefEqProofs (disch := omega) only [go_sem, ntmps94, d, Bool.not_true]
 refine Jaa i ?_
 cases g
 . simp -implicitDefEqProofs (disch := omega) only [go_sem, results94]
 cases b3
 . simp -implicitDefEqProofs (disch := omega) only [go_sem]
   refine Jaa j ?_
   simp -implicitDefEqProofs (disch := omega) only [go_sem, results94]
 . cases h
abbrev ITP (x : It) : AV := .agg [I x.i, Str x.e, SLs x.p]
abbrev ITS (l : List It) : AV := .sl 3 (l.map ITP)
abbrev PTP (p : Pt) : AV := .agg [I p.h.c, I p.h.n, Str p.h.r, Str p.h.s, ITS p.l]
abbrev zP : AV := .agg [I 0, I 0, .v (.string ByteArray.empty), .v (.string ByteArray.empty), .v (.slice none 0 0)]
abbrev shV (o : Option Pt) : AV := match o with
 | some p => .tup [PTP p, I 0]
 | none => .tup [zP, I 180]
section
variable (p : Nat -> Bool) (l : List It)
@[go_sem] theorem Jwr : AV.namesL p (l.map ITP) = false := Jaj p l ITP λ _ => rfl
@[go_sem] theorem Jw4 : Jbq 3 (l.map ITP) = true := Jaw 3 l ITP λ _ => ⟨rfl, rfl⟩
end
theorem JqS (b : ByteArray) (r : Rg) (n : Int) (l : List Int) : Ji7 b r n l = if sigB b r n = true then (if ascN n.toNat none l = true then some ⟨Jiz b r n.toNat, l.map λ i => JeX r n.toNat i.toNat⟩ else none) else none := by
 unfold Ji7
 by_cases h : sigB b r n = true
 . rw [if_pos h]
   obtain ⟨d, f, g⟩ := Jgy.1 h
   by_cases ha : ascN n.toNat none l = true
   . rw [if_pos ha, if_pos ⟨d, f, g, ha⟩]
   . rw [if_neg ha, if_neg (λ c => ha c.2.2.2)]
 . rw [if_neg h, if_neg (λ c => h (Jgy.2 ⟨c.1, c.2.1, c.2.2.1⟩))]
def prvO (l : List Int) (i : Nat) : Option Int := if i = 0 then none else some (gd l (i - 1))
theorem JoN (n : Nat) (l : List Int) (i : Nat) (h : i < l.length) : ascN n (prvO l i) (l.drop i) = (decide ((0 <= gd l i /\ gd l i < n) /\ (0 < i -> gd l (i - 1) < gd l i)) && ascN n (prvO l (i + 1)) (l.drop (i + 1))) := by
 rw [Ja6 l i h, ascN]
 have c : prvO l (i + 1) = some (gd l i) := by unfold prvO; rw [if_neg (by omega), L1e]
 rw [c]
 congr 1
 rw [decide_eq_decide]
 refine and_congr Iff.rfl ?_
 unfold prvO
 by_cases h0 : i = 0
 . subst h0; simp
 . rw [if_neg h0]
   exact ⟨λ b _ => b _ rfl, λ b q d => by cases d; exact b (by omega)⟩
def itV (r : Rg) (n : Nat) (l : List Int) (i : Nat) : List AV := (l.take i).map λ j => ITP (JeX r n j.toNat)
theorem JuS (r : Rg) (n : Nat) (l : List Int) (i : Nat) (h : i <= l.length) : (itV r n l i).length = i := by
 unfold itV; rw [L0b, L01]; omega
theorem JpR (r : Rg) (n : Nat) (l : List Int) (p : Nat -> Bool) (i : Nat) : AV.namesL p (itV r n l i) = false := Jaj p (l.take i) (λ j => ITP (JeX r n j.toNat)) λ _ => rfl
theorem Jsd (r : Rg) (n : Nat) (l : List Int) : itV r n l 0 = [] := rfl
theorem Jy6 {T : Type} [Inhabited T] (l : List T) (i : Nat) (h : i < l.length) : l.take (i + 1) = l.take i ++ [gd l i] := by rw [L0D, JaA l i h]; rfl
theorem Jsc (r : Rg) (n : Nat) (l : List Int) (i : Nat) (h : i < l.length) : itV r n l (i + 1) = itV r n l i ++ [.agg [I (gd l i).toNat, Str (gd r.l (gd l i).toNat), SLs (JbX (r.l.take n) (gd l i).toNat).reverse]] := by
 unfold itV; rw [Jy6 l i h, L1b]; rfl
theorem JuR (r : Rg) (n : Nat) (l : List Int) : itV r n l l.length = (l.map λ j => JeX r n j.toNat).map ITP := by
 unfold itV; rw [L05, L19]; rfl
theorem Jpn {P : Program} {f : FuncId} {args : List AV} {e sz : Nat} {es : List AV} {x : Value} (h : Ev P f args (.tup [.new e sz es, .v x])) : Ev P f args (.tup [.sl sz es, .v x]) := by
 intro l r0 T
 obtain ⟨rfl, rfl⟩ := T
 obtain ⟨k, m⟩ := h l _ ⟨rfl, rfl⟩
 refine ⟨k, λ w Q vs W U o => ?_⟩
 refine (m w Q vs W U o).mono λ ex O X => ?_
 obtain ⟨y, rfl, Z, g, L, M, ys, H, rfl, d, R⟩ := X
 refine ⟨_, rfl, Z, ?_⟩
 match ys, H, d with
 | [y1, y2], [o1, o2], d =>
  obtain ⟨r1, ⟨rfl, N⟩, _⟩ := d
  have I : JdA w.heap.size g [none, none] := ⟨λ b s => by simp at s, by simp⟩
  rcases r1 with ⟨rfl, rfl, rfl⟩ | ⟨b, D, hz, rfl, rfl, G, J, K, p⟩
  . exact ⟨g, L, M, _, [none, none], rfl, ⟨⟨rfl, .slnil ..⟩, ⟨rfl, N⟩, trivial⟩, I⟩
  . obtain ⟨q, A, t, Y, F⟩ := p
    have s := (R.1 b (by simp)).1
    have E : b < O.heap.size := by
     obtain ⟨I, A, _⟩ := A
     exact (L0l.1 A).1
    refine ⟨λ a => g a \/ a = b, λ a o => .inl (L a o), λ a o => ?_, _, [none, none], rfl, ⟨⟨rfl, ?_⟩, ⟨rfl, ?_⟩, trivial⟩, ⟨λ b s => by simp at s, by simp⟩⟩
    . rcases o with o | rfl
      . exact M a o
      . exact .inr ⟨s, E⟩
    . have u : ∀ (i : Nat) (a : AV) (j : Nat) (c : AV), es[i]? = some a -> a.cells[j]? = some c -> ∃ v, q[i * sz + j]? = some v /\ v.oneCell' = true /\ IRep O (λ a => g a \/ a = b) c v := λ i a j c k m => by
       obtain ⟨v, z, B, C⟩ := F i a j c k m
       exact ⟨v, z, B, C.mono (λ _ h => .inl h) (λ _ _ => rfl)⟩
      refine .sl sz es b 0 D (λ i j => (q[i * sz + j]?).getD undef) (.inr rfl) G t (λ i j V hj => ?_) (λ i a j c k m => ?_)
      . obtain ⟨a, k⟩ : ∃ a, es[i]? = some a := ⟨_, L07 V⟩
        have S := t a (L02 k)
        obtain ⟨c, m⟩ : ∃ c, a.cells[j]? = some c := ⟨_, L07 (by omega)⟩
        obtain ⟨v, z, B, C⟩ := u i a j c k m
        rw [Jbf A, L0q, z]
        exact ⟨rfl, B⟩
      . obtain ⟨v, z, B, C⟩ := u i a j c k m
        simp only [z, Option.getD_some]; exact C
    . exact N.mono (λ _ h => .inl h) (λ _ _ => rfl)
 | [], _, d => exact d.elim
 | [_], [], d => exact d.elim
 | [_], [_], d => exact d.2.elim
 | [_], _ :: _ :: _, d => exact d.2.elim
 | _ :: _ :: _, [], d => exact d.elim
 | _ :: _ :: _, [_], d => exact d.2.elim
 | _ :: _ :: _ :: _, _ :: _ :: _, d => exact d.2.2.elim
 | [_, _], _ :: _ :: _ :: _, d => exact d.2.2.elim
theorem Jci {T : Type} (g : T -> AV) (h : ∀ x, (g x).dn = false) : ∀ l : List T, AV.dnL (l.map g) = false
 | [] => by simp only [L0E, AV.dnL]
 | x :: l => by simp only [L0j, AV.dnL, h x, Jci g h l, L13]
theorem Jty (l : List ByteArray) (n : Int) : (AV.tup [.sl 1 (l.map λ s => .v (.string s)), .v (.int .i64 n)]).dn = false := by
 simp only [AV.dn, AV.dnL, Jci _ (λ x => AV.dn.eq_2 _) l, L13]
def shR (c : Int) (L : List ByteArray) (n : Nat) (R S : ByteArray) (l : List Int) (i : Nat) (P : List AV) (E : Env) (σ : Jac) : Prop :=
 E 2 = I n /\ E 3 = SL l /\ E 5 = .ptr 113246288 2 0 0 /\ E 8 = .ptr 113246336 5 0 0 /\ E 12 = .ptr 113246400 5 0 0 /\ E 13 = I i /\
  σ 113246288 = some ⟨144, 2, [.agg [I c, SLs L]]⟩ /\ σ 113246336 = some ⟨38, 5, [zP]⟩ /\ σ 113246400 = some ⟨38, 5, [.agg [I c, I n, Str R, Str S, .own 113246401 3 0 i]]⟩ /\ σ 113246401 = some ⟨199, 3, P⟩
set_option maxHeartbeats 2000000 in
theorem JsU (key : ByteArray) (r : Rg) (n : Int) (l : List Int) (hrl : r.l.length <= 9223372036854775807) (hl : l.length <= 9223372036854775807) (hR : ∀ x ∈ l, R64 x) : Ev prog 53 [Str key, RGP r, I n, SL l] (shV (Ji7 key r n l)) := by
 rw [JqS]
 cases hs : sigB key r n with
 | false =>
  have c1 := JqU key r n hrl hs
  have hd : HDP default = .agg [I 0, I 0, .v (.string ByteArray.empty), .v (.string ByteArray.empty)] := rfl
  rw [hd] at c1
  rw [if_neg (by decide)]
  refine EW [5, 12] func53 ?_
  simp -implicitDefEqProofs (disch := omega) only [go_sem, ntmps53]
  refine Jaa c1 ?_
  simp -implicitDefEqProofs (disch := omega) only [go_sem, results53]
 | true =>
 rw [if_pos rfl]
 obtain ⟨h1, h2, h3, h4⟩ := Jgy.1 hs
 obtain ⟨m, rfl⟩ := Int.eq_ofNat_of_zero_le h3
 have hn : (m : Int).toNat = m := by omega
 rw [hn]; have c1 := JsV key r m hs; have hr := Jd6.1 h2
 have htl : (r.l.take m).length = m := by rw [L01]; omega
 have c2 := λ (J : Nat) (hJ : J < m) => Jpn (JeC m (r.l.take m) J (by omega) (by omega) (by omega) (JhL h2 λ s hs => L0H hs))
 have c3 := λ (J : Int) => JiC J 0 (m - 1)
 have hst := JoN m l; have hvl := JuS r m l; have hvn := JpR r m l; have hv0 := Jsd r m l; have hvs := Jsc r m l; have hva := JuR r m l
 obtain ⟨z, hz⟩ : ∃ z, ascN m none l = z := ⟨_, rfl⟩
 rw [hz]
 have hz0 : z = ascN m (prvO l 0) (l.drop 0) := hz.symm
 have hfin : (if z = true then some (⟨Jiz key r m, l.map λ i => JeX r m i.toNat⟩ : Pt) else none) = if z = true then some (⟨⟨r.c, m, Jcr (r.l.take m), JfQ key ⟨r.c, m, Jcr (r.l.take m), default⟩⟩, l.map λ i => JeX r m i.toNat⟩ : Pt) else none := rfl
 rw [hfin]; rw [Jmo] at c1
 generalize hF : (l.map λ i => JeX r m i.toNat) = F at *
 generalize JfQ key ⟨r.c, m, Jcr (r.l.take m), default⟩ = S at *; generalize Jcr (r.l.take m) = R at *; generalize itV r m l = V at *; obtain ⟨c, L⟩ := r
 simp only at *
 generalize JbX (L.take m) = Q at *; clear hfin hF hz h2 h1 hs
 refine EW [5, 12] func53 ?_
 simp -implicitDefEqProofs (disch := omega) only [go_sem, ntmps53]
 refine Jaa c1 ?_
 simp -implicitDefEqProofs (disch := omega) only [go_sem]
 refine Jbp 113246400 113246401 0 4 199 3 (k := ⟨38, 5, [.agg [I c, I m, Str R, Str S, .v (.slice none 0 0)]]⟩) (el := .agg [I c, I m, Str R, Str S, .v (.slice none 0 0)]) (by simp -implicitDefEqProofs (disch := omega) only [go_sem]) (by decide) rfl rfl (by simp) (by simp -implicitDefEqProofs (disch := omega) only [go_sem]) rfl ?_
 refine Jel Plain.mono ?_
 simp -implicitDefEqProofs (disch := omega) only [go_sem]
 refine Jag (λ k E σ => ∃ i : Nat, i + k = l.length /\ i <= m /\ (0 < i -> (i : Int) <= gd l (i - 1) + 1 /\ gd l (i - 1) < m) /\ z = ascN m (prvO l i) (l.drop i) /\ shR c L m R S l i (V i) E σ) l.length ⟨0, by omega, by omega, λ h => absurd h (by omega), hz0, ?_⟩ ?_
 . simp -implicitDefEqProofs (disch := omega) only [go_sem, shR, hv0, false_and]; try rfl
 rintro k E σ ⟨i, hk, him, hpr, hx, e2, e3, e5, e8, e12, e13, m5, m8, m12, mP⟩
 simp -implicitDefEqProofs (disch := omega) only [go_sem, e2, e3, e5, e8, e12, e13, m5, m8, m12, mP]
 refine Jab (λ hc => ?_) (λ hc => ?_)
 . have hi : i < l.length := by omega
   have hx1 := hst i hi; rw [hx1] at hx; have hxr := hR _ (Jan l i hi); have hvi := hvs i hi
   have hvl1 := hvl i (by omega)
   simp -implicitDefEqProofs (disch := omega) only [go_sem, e2, e3, e5, e8, e12, e13, m5, m8, m12, mP]
   refine Jaa (c3 (gd l i)) ?_
   by_cases hb : 0 <= gd l i /\ gd l i < m
   rotate_left
   . rw [decide_eq_false (λ h => hb h.1), L0e] at hx
     rw [decide_eq_false (by omega)]
     subst hx; simp -implicitDefEqProofs (disch := omega) only [go_sem, e2, e3, e5, e8, e12, e13, m5, m8, m12, mP, results53]
   rw [decide_eq_true (by omega)]
   obtain ⟨J, hJ⟩ := Int.eq_ofNat_of_zero_le hb.1
   have d1 := c2 J (by omega)
   rw [hJ] at hx hvi hb; rw [L1m] at hvi; simp -implicitDefEqProofs (disch := omega) only [go_sem, hJ, e2, e3, e5, e8, e12, e13, m5, m8, m12, mP, hJ]
   refine Jab (λ h2 => ?_) (λ h2 => ?_)
   . have hj : ((i : Int) - 1).toNat = i - 1 := by omega
     simp -implicitDefEqProofs (disch := omega) only [go_sem, hJ, e2, e3, e5, e8, e12, e13, m5, m8, m12, mP, hj, hJ]
     refine Jab (λ h5 => ?_) (λ h5 => ?_)
     . rw [decide_eq_false (λ h => by have := h.2 (by omega); omega), L0e] at hx
       subst hx; simp -implicitDefEqProofs (disch := omega) only [go_sem, hJ, e2, e3, e5, e8, e12, e13, m5, m8, m12, mP, results53]
     . have hx : z = ascN m (prvO l (i + 1)) (l.drop (i + 1)) := by rw [hx, decide_eq_true (by rw [<- hJ]; constructor <;> omega), L0h]
       have hqt : (V i).take i = V i := L03 (by omega)
       have hql : (Q J).reverse.take (Q J).reverse.length = (Q J).reverse := L05
       simp -implicitDefEqProofs (disch := omega) only [go_sem, hJ, e2, e3, e5, e8, e12, e13, m5, m8, m12, mP, hn]
       refine Jaa d1 ?_ (h4 := .inr (Jty _ _))
       simp -implicitDefEqProofs (disch := omega) only [go_sem, hJ, e2, e3, e5, e8, e12, e13, m5, m8, m12, mP, hvl1, hqt, hvn, false_and]
       have hnx : 0 < i + 1 -> ((i + 1 : Nat) : Int) <= gd l (i + 1 - 1) + 1 /\ gd l (i + 1 - 1) < m := λ _ => by
        rw [L1e, hJ]
        by_cases h0 : 0 < i
        . have := hpr h0; omega
        . omega
       have him2 : i + 1 <= m := by have := hnx (by omega); rw [L1e, hJ] at this; omega
       have hdec : l.length - (i + 1) < k /\ i + 1 + (l.length - (i + 1)) = l.length := by omega
       refine Jad (l.length - (i + 1)) hdec.1 ⟨i + 1, hdec.2, him2, hnx, hx, ?_⟩
       have hvn1 := λ p => hvn p (i + 1)
       rw [hvi] at hvn1; rw [hvi]; simp -implicitDefEqProofs (disch := omega) only [go_sem, shR, e2, e3, e5, e8, e12, e13, m5, m8, m12, mP, hvl1, hqt, hvn, hvn1, false_and]; try rfl
   . have hx : z = ascN m (prvO l (i + 1)) (l.drop (i + 1)) := by rw [hx, decide_eq_true (by rw [<- hJ]; constructor <;> omega), L0h]
     have hqt : (V i).take i = V i := L03 (by omega)
     have hql : (Q J).reverse.take (Q J).reverse.length = (Q J).reverse := L05
     simp -implicitDefEqProofs (disch := omega) only [go_sem, hJ, e2, e3, e5, e8, e12, e13, m5, m8, m12, mP, hn]
     refine Jaa d1 ?_ (h4 := .inr (Jty _ _))
     simp -implicitDefEqProofs (disch := omega) only [go_sem, hJ, e2, e3, e5, e8, e12, e13, m5, m8, m12, mP, hvl1, hqt, hvn, false_and]
     have hnx : 0 < i + 1 -> ((i + 1 : Nat) : Int) <= gd l (i + 1 - 1) + 1 /\ gd l (i + 1 - 1) < m := λ _ => by
      rw [L1e, hJ]
      by_cases h0 : 0 < i
      . have := hpr h0; omega
      . omega
     have him2 : i + 1 <= m := by have := hnx (by omega); rw [L1e, hJ] at this; omega
     have hdec : l.length - (i + 1) < k /\ i + 1 + (l.length - (i + 1)) = l.length := by omega
     refine Jad (l.length - (i + 1)) hdec.1 ⟨i + 1, hdec.2, him2, hnx, hx, ?_⟩
     have hvn1 := λ p => hvn p (i + 1)
     rw [hvi] at hvn1; rw [hvi]; simp -implicitDefEqProofs (disch := omega) only [go_sem, shR, e2, e3, e5, e8, e12, e13, m5, m8, m12, mP, hvl1, hqt, hvn, hvn1, false_and]; try rfl
 . obtain rfl : i = l.length := by omega
   rw [L0X] at hx
   have hx : z = true := hx
   subst hx; rw [hva] at mP
   have hFl : F.length = l.length := by have := hvl l.length (L08 _); rw [hva, L0b] at this; exact this
   have hqt : F.take l.length = F := L03 (by omega)
   simp -implicitDefEqProofs (disch := omega) only [go_sem, e2, e3, e5, e8, e12, e13, m5, m8, m12, mP]
   refine JaW Plain.mono [113246400, 113246401] ?_
   simp -implicitDefEqProofs (disch := omega) only [go_sem, e2, e3, e5, e8, e12, e13, m5, m8, m12, mP, hqt, L0b, hFl]; simp -implicitDefEqProofs (disch := omega) only [go_sem, e2, e3, e5, e8, e12, e13, m5, m8, m12, mP, hqt, L0b, hFl, results53]
def PtOK (p : Pt) : Prop := p.h.r.size <= 9223372036854775807 /\ p.l.length <= 9223372036854775807 /\ ∀ x ∈ p.l, x.e.size <= 9223372036854775807 /\ x.p.length <= 1000000
def prvI (l : List It) (i : Nat) : Option Int := if i = 0 then none else some (gd l (i - 1)).i
theorem JpS (h : Hd) (l : List It) (i : Nat) (hi : i < l.length) : itsB h (prvI l i) (l.drop i) = ((decide (i = 0 \/ (0 < i /\ (gd l (i - 1)).i < (gd l i).i)) && (decide ((gd l i).e.size <= 1000) && verB h.r h.n (gd l i).i (gd l i).e (gd l i).p)) && itsB h (prvI l (i + 1)) (l.drop (i + 1))) := by
 rw [Ja6 l i hi, itsB, itB]
 have c : prvI l (i + 1) = some (gd l i).i := by unfold prvI; rw [if_neg (by omega), L1e]
 rw [c]
 congr 2
 rw [decide_eq_decide]; unfold prvI
 by_cases h0 : i = 0
 . subst h0; simp
 . rw [if_neg h0]
   exact ⟨λ b => .inr ⟨by omega, b _ rfl⟩, λ b q d => by cases d; rcases b with b | b; exact absurd b h0; exact b.2⟩
set_option maxHeartbeats 2000000 in
theorem JeP (key : ByteArray) (p : Pt) (hp : PtOK p) : Ev prog 106 [Str key, PTP p] (B (Jcz key p)) := by
 have c1 := JxW key p.h hp.1
 have hch : Jcz key p = (genB key p.h && itsB p.h none p.l) := rfl
 have hng : genB key p.h = true -> 0 <= p.h.n /\ p.h.n <= 60 := λ h => (Jmk.1 h).2.2.1
 obtain ⟨z, hz⟩ : ∃ z, Jcz key p = z := ⟨_, rfl⟩
 rw [hz] at hch ⊢; generalize genB key p.h = g at *; have hst := JpS p.h p.l
 have hz0 : itsB p.h none p.l = itsB p.h (prvI p.l 0) (p.l.drop 0) := rfl
 rw [hz0] at hch
 obtain ⟨⟨c, n, r, s⟩, l⟩ := p
 obtain ⟨hp1, hp2, hp3⟩ := hp
 simp only at *
 have c4 := λ (x : It) (hx : x ∈ l) (hn : n <= 60) (hs : x.e.size <= 1000) => Jzf r n x.i x.e x.p hn (by omega) (hp3 x hx).2
 refine EV func106 ?_
 simp -implicitDefEqProofs (disch := omega) only [go_sem, ntmps106]
 refine Jaa c1 ?_
 cases g with
 | false =>
  subst hch; simp -implicitDefEqProofs (disch := omega) only [go_sem, L0e, results106]
 | true =>
 rw [L0h] at hch; have hn := hng rfl; clear hng hz0 c1 hz; simp -implicitDefEqProofs (disch := omega) only [go_sem]
 refine Jag (λ k E σ => ∃ i : Nat, i + k = l.length /\ z = itsB ⟨c, n, r, s⟩ (prvI l i) (l.drop i) /\ E 3 = .ptr 224395312 5 0 0 /\ E 14 = ITS l /\ E 15 = I l.length /\ E 16 = I i /\ σ 224395312 = some ⟨38, 5, [.agg [I c, I n, Str r, Str s, ITS l]]⟩) l.length ⟨0, by omega, hch, ?_⟩ ?_
 . simp -implicitDefEqProofs (disch := omega) only [go_sem]; try rfl
 rintro k E σ ⟨i, hk, hx, e3, e14, e15, e16, m3⟩
 simp -implicitDefEqProofs (disch := omega) only [go_sem, e3, e14, e15, e16, m3]
 refine Jab (λ hc => ?_) (λ hc => ?_)
 . have hi : i < l.length := by omega
   rw [hst i hi] at hx; have d4 := c4 _ (Jan l i hi) hn.2; have hpi := hp3 _ (Jan l i hi)
   have hdec : l.length - (i + 1) < k /\ i + 1 + (l.length - (i + 1)) = l.length := by omega
   try simp only at hx
   generalize hX : gd l i = X at *; obtain ⟨xi, xe, xp⟩ := X
   try simp only at *
   generalize verB r n xi xe xp = v at *
   have h0b : ((i : Int) == 0) = decide (i = 0) := by rw [L1c]; simp
   have hj : ((i : Int) - 1).toNat = i - 1 := by omega
   simp -implicitDefEqProofs (disch := omega) only [go_sem, e3, e14, e15, e16, m3, hX, h0b]
   refine Jab (λ h0 => ?_) (λ h0 => ?_)
   . rw [decide_eq_true (Or.inl h0), L0h] at hx; simp -implicitDefEqProofs (disch := omega) only [go_sem, e3, e14, e15, e16, m3, hX]
     refine Jab (λ h5 => ?_) (λ h5 => ?_)
     . rw [decide_eq_false (by omega), L0e, L0e] at hx
       subst hx; simp -implicitDefEqProofs (disch := omega) only [go_sem, e3, e14, e15, e16, m3, hX, results106]
     . rw [decide_eq_true (by omega), L0h] at hx
       simp -implicitDefEqProofs (disch := omega) only [go_sem, e3, e14, e15, e16, m3, hX]
       refine Jaa (d4 (by omega)) ?_
       cases v
       . rw [L0e] at hx; subst hx; simp -implicitDefEqProofs (disch := omega) only [go_sem, e3, e14, e15, e16, m3, hX, results106]
       . rw [L0h] at hx; simp -implicitDefEqProofs (disch := omega) only [go_sem, e3, e14, e15, e16, m3, hX]
         refine Jad (l.length - (i + 1)) hdec.1 ⟨i + 1, hdec.2, hx, ?_⟩
         simp -implicitDefEqProofs (disch := omega) only [go_sem, e3, e14, e15, e16, m3, hX]; try rfl
   . simp -implicitDefEqProofs (disch := omega) only [go_sem, e3, e14, e15, e16, m3, hX, hj]
     refine Jab (λ h2 => ?_) (λ h2 => ?_)
     . rw [decide_eq_false (λ h => by rcases h with h | h; exact h0 h; exact h2 h.2), L0e, L0e] at hx
       subst hx; simp -implicitDefEqProofs (disch := omega) only [go_sem, e3, e14, e15, e16, m3, hX, results106]
     . rw [decide_eq_true (Or.inr ⟨by omega, by omega⟩), L0h] at hx
       simp -implicitDefEqProofs (disch := omega) only [go_sem, e3, e14, e15, e16, m3, hX]
       refine Jab (λ h5 => ?_) (λ h5 => ?_)
       . rw [decide_eq_false (by omega), L0e, L0e] at hx
         subst hx; simp -implicitDefEqProofs (disch := omega) only [go_sem, e3, e14, e15, e16, m3, hX, results106]
       . rw [decide_eq_true (by omega), L0h] at hx
         simp -implicitDefEqProofs (disch := omega) only [go_sem, e3, e14, e15, e16, m3, hX]
         refine Jaa (d4 (by omega)) ?_
         cases v
         . rw [L0e] at hx; subst hx; simp -implicitDefEqProofs (disch := omega) only [go_sem, e3, e14, e15, e16, m3, hX, results106]
         . rw [L0h] at hx; simp -implicitDefEqProofs (disch := omega) only [go_sem, e3, e14, e15, e16, m3, hX]
           refine Jad (l.length - (i + 1)) hdec.1 ⟨i + 1, hdec.2, hx, ?_⟩
           simp -implicitDefEqProofs (disch := omega) only [go_sem, e3, e14, e15, e16, m3, hX]; try rfl
 . obtain rfl : i = l.length := by omega
   rw [L0X] at hx
   have hx : z = true := hx
   subst hx; simp -implicitDefEqProofs (disch := omega) only [go_sem, e3, e14, e15, e16, m3, results106]
end Go.Proofs.YtlecbpkidomjbaaGreatDoor
namespace Go.Vai
open Go.RowKit
end Go.Vai
set_option maxRecDepth 100000
namespace Go.Proofs.YtlecbpkidomjbaaGreatDoor
open Go.Proofs.Tryz
open Go.Vai Go Go.Proofs
section
variable (p : Nat -> Bool) (l : List It)
end
@[go_sem] theorem JCh {σ : Jac} {R : AV -> Prop} (es : List AV) : retK σ R [.mp es] = R (.mp es) := by
 simp only [retK, JeR, Jat, AV.single, expo, Jfe (vs := [.mp es]) rfl, Jcm, eq_iff_iff, true_and]
 refine ⟨λ h => h.2, λ h => ⟨⟨List.nodup_nil, λ v b => ?_⟩, h⟩⟩
 rw [L0r] at b; subst b
 try trivial
@[go_sem] theorem Jvd (b : Option Nat) : ((Value.map b).oneCell' = true) = True := by cases b <;> simp [Value.oneCell']
section
variable (q : Nat -> Bool) (es : List AV)
@[go_sem] theorem ok_mp : AV.ok (.mp es) = true := rfl
@[go_sem] theorem cells_mp : AV.cells (.mp es) = [.mp es] := rfl
@[go_sem] theorem JBK : AV.kill q (.mp es) = .mp es := by
 unfold AV.kill
 split <;> rfl
end
theorem JaG (c n : Int) (b : R64 c) (g : 0 < n) : Ev prog 27 [I c, I n] (I (Jaf c n)) := by
 obtain ⟨d, f⟩ := b
 refine EV func27 ?_
 simp -implicitDefEqProofs (disch := omega) only [go_sem, ntmps27]
 refine Jab (λ h => ?_) (λ h => ?_) <;> simp -implicitDefEqProofs (disch := omega) only [go_sem, results27]
 . rw [show (0 - (c+1)) = -(c+1) from by omega]; simp [Jaf, h]
 . simp [Jaf, h]
def keyF (c : Int) : ByteArray := strOfNums (List.replicate 32 (100 + c))
theorem JpX (c : Int) : (keyF c).size = 32 := by unfold keyF; rw [strOfNums_size]; simp
def Jdw (b : Int) (v : Nat) : List Int := List.replicate v b ++ List.replicate (32 - v) 0
theorem JjI (b : Int) (v : Nat) (c : v < 32) : (Jdw b v).set v b = Jdw b (v + 1) := by
 unfold Jdw
 rw [L2r _ _ (by simp), L22, L1y, show 32 - v = (32 - (v + 1)) + 1 from by omega, L2s, List.set_cons_zero, L2f]
 simp
theorem Jf3 (b : Int) (v : Nat) (c : v <= 32) : (Jdw b v).length = 32 := by unfold Jdw; simp; omega
@[go_sem] theorem Jx9 (n : Nat) : List.replicate n (Y 0) = (List.replicate n 0).map Y := by simp
theorem Jx3 (c : Int) (p : 0 <= c /\ c <= 100) : Ev prog 31 [I c] (Str (keyF c)) := by
 have k : IntKind.u8.wrap (100 + c) = 100 + c := by simp [IntKind.wrap, IntKind.bits, IntKind.signed]; omega
 have t : R64 (100 + c) := by constructor <;> omega
 refine EV func31 ?_
 unfold keyF; simp -implicitDefEqProofs (disch := omega) only [go_sem, ntmps31]
 refine Jag (λ n E q => ∃ v : Nat, v + n = 32 /\ E 0 = I c /\ E 3 = .own 67108944 1 0 32 /\ E 4 = I v /\ q 67108944 = some ⟨5, 1, (Jdw (100 + c) v).map Y⟩) 32 ⟨0, by omega, ?_⟩ ?_
 . simp -implicitDefEqProofs (disch := omega) only [go_sem]
   exact ⟨rfl, rfl⟩
 . rintro n E q ⟨v, u, i, g, j, h⟩
   have d := Jf3 (100 + c) v (by omega)
   simp -implicitDefEqProofs (disch := omega) only [go_sem, i, g, j, h]
   refine Jab (λ p => ?_) (λ p => ?_)
   . have f := JjI (100 + c) v (by omega)
     simp -implicitDefEqProofs (disch := omega) only [go_sem, i, g, j, h, d, f, k]
     refine Jad (n - 1) (by omega) ⟨v + 1, by omega, ?_⟩
     simp -implicitDefEqProofs (disch := omega) only [go_sem, i, g, j, h, d, f, k]
     simp
   . obtain rfl : v = 32 := by omega
     have l : Jdw (100 + c) 32 = List.replicate 32 (100 + c) := by simp [Jdw]
     rw [l] at h d; generalize s : List.replicate 32 (100 + c) = o at *
     have m : o.take 32 = o := L03 (by omega)
     simp -implicitDefEqProofs (disch := omega) only [go_sem, i, g, j, h, d]
     refine JcJ o (by simp -implicitDefEqProofs (disch := omega) only [go_sem, g, h, d, m]) (by intro b; simp -implicitDefEqProofs (disch := omega) only [go_sem, g]; intro e; cases e) (e := 5) rfl rfl rfl ?_
     simp -implicitDefEqProofs (disch := omega) only [go_sem, i, g, j, h, d, results31]
def posE (u : ByteArray) : List ByteArray -> Nat -> Option Nat
 | [], _ => none
 | e :: l, v => if e = u then some v else posE u l (v + 1)
def addM : List (ByteArray × AV) -> Nat -> List ByteArray -> List (ByteArray × AV)
 | M, _, [] => M
 | M, v, e :: l => addM (match Jby e M with | some _ => M | none => M ++ [(e, I v)]) (v + 1) l
theorem JjX {e : ByteArray} : ∀ {M : List (ByteArray × AV)}, Jby e M = none -> idxS e M = none
 | [], _ => rfl
 | p :: r, h => by
  rw [Jby] at h
  split at h
  . cases h
  . rename_i b
    rw [idxS, if_neg b, JjX h]; rfl
theorem JmM {e : ByteArray} {M : List (ByteArray × AV)} (x : AV) (h : Jby e M = none) : Jlt M e x = M ++ [(e, x)] := by
 unfold Jlt; rw [JjX h]
theorem Jml (u e : ByteArray) (x : AV) : ∀ M : List (ByteArray × AV), Jby u (M ++ [(e, x)]) = match Jby u M with | some a => some a | none => if e = u then some x else none
 | [] => rfl
 | p :: r => by
  rw [L0K, Jby, Jby]
  by_cases h : p.1 = u
  . rw [if_pos h, if_pos h]
  . rw [if_neg h, if_neg h]; exact Jml u e x r
theorem Jpz (u : ByteArray) : ∀ (L : List ByteArray) (v : Nat) (M : List (ByteArray × AV)), Jby u (addM M v L) = match Jby u M with | some a => some a | none => (posE u L v).map λ p => I p
 | [], v, M => by
  rw [addM]
  cases Jby u M <;> rfl
 | e :: l, v, M => by
  rw [addM, Jpz u l (v + 1)]
  cases he : Jby e M with
  | some a =>
   simp only
   cases hu : Jby u M with
   | some b => rfl
   | none =>
    have c : e ≠ u := λ h => by rw [h, hu] at he; cases he
    simp only [posE, if_neg c]
  | none =>
   simp only [Jml]
   cases hu : Jby u M with
   | some b => rfl
   | none =>
    simp only [posE]
    by_cases h : e = u
    . simp [h]
    . simp [h]
theorem Jqu (u : ByteArray) : ∀ (L : List ByteArray) (v p : Nat), posE u L v = some p -> v <= p
 | [], v, p, h => by cases h
 | e :: l, v, p, h => by
  rw [posE] at h
  split at h
  . cases h; exact L08 _
  . have := Jqu u l (v + 1) p h; omega
def fstP (x y : Option Nat) : Int := match x, y with
 | none, none => 0
 | some _, none => 1
 | none, some _ => 2
 | some a, some b => if a < b then 1 else 2
theorem Jpy {u w : ByteArray} (h : u ≠ w) : ∀ (L : List ByteArray) (v : Nat), fstF u w L = fstP (posE u L v) (posE w L v)
 | [], v => rfl
 | e :: l, v => by
  rw [fstF, posE, posE]
  by_cases h1 : e = u
  . rw [if_pos h1, if_pos h1, if_neg (λ c => h (h1.symm.trans c))]
    cases hp : posE w l (v + 1) with
    | none => rfl
    | some b =>
     have := Jqu w l (v + 1) b hp
     show 1 = if v < b then (1 : Int) else 2
     rw [if_pos (by omega)]
  . rw [if_neg h1, if_neg h1]
    by_cases c : e = w
    . rw [if_pos c, if_pos c]
      cases hp : posE u l (v + 1) with
      | none => rfl
      | some b =>
       have := Jqu u l (v + 1) b hp
       show 2 = if b < v then (1 : Int) else 2
       rw [if_neg (by omega)]
    . rw [if_neg c, if_neg c]; exact Jpy h l (v + 1)
def evM (L : List ByteArray) : List (ByteArray × AV) := addM [] 0 L
theorem JpA (u : ByteArray) (L : List ByteArray) : Jby u (evM L) = (posE u L 0).map λ p => I p := Jpz u L 0 []
theorem Jny (L : List ByteArray) (u w : ByteArray) : JcA L u w = if u = w then 0 else fstP (posE u L 0) (posE w L 0) := by
 unfold JcA
 by_cases h : u = w
 . rw [if_pos h, if_pos h]
 . rw [if_neg h, if_neg h, Jpy h L 0]
def mI (N : List (ByteArray × Nat)) : List (ByteArray × AV) := N.map λ q => (q.1, I q.2)
theorem Jlp (N : List (ByteArray × Nat)) (e : ByteArray) (v : Nat) : mI N ++ [(e, I v)] = mI (N ++ [(e, v)]) := by unfold mI; rw [L1b]; rfl
section
variable (p : Nat -> Bool) (N : List (ByteArray × Nat))
@[go_sem] theorem Jyh : AV.namesL p ((mI N).map entS) = false := by
 unfold mI; rw [L19]; exact Jaj p N _ λ _ => rfl
end
theorem Jx8 {e : ByteArray} {v : AV} {N : List (ByteArray × Nat)} (h : Jby e (mI N) = some v) : ∃ n : Nat, v = I n := by
 obtain ⟨q, _, b⟩ := L04.1 (Jj9 h)
 cases b; exact ⟨q.2, rfl⟩
section
variable (p : Nat -> Bool) (es l : List AV) (σ : Jac)
@[go_sem] theorem Jzc : Jat (.mp es :: l) = Jat l := rfl
@[go_sem] theorem JBk : JbA σ p (.mp es) = True := by simp [JbA, AV.namesB]
@[go_sem] theorem JBm : expo σ p (.mp es) = .mp es := rfl
end
theorem Jrf : prog.underlying 156 = some (.map 9 3) := by kernel_rfl
theorem Jtd : prog.underlying 9 = some .string := by kernel_rfl
theorem tz_i : tz prog 3 = some (.int .i64 0) := by kernel_rfl
theorem Jox : ∀ (L : List ByteArray) (v : Nat) (N : List (ByteArray × Nat)), ∃ b, addM (mI N) v L = mI b
 | [], v, N => ⟨N, rfl⟩
 | e :: l, v, N => by
  rw [addM]
  cases Jby e (mI N) with
  | some a => exact Jox l (v + 1) N
  | none => simp only; rw [Jlp]; exact Jox l (v + 1) _
theorem JjH (L : List ByteArray) : ∃ N, evM L = mI N := Jox L 0 []
set_option maxHeartbeats 1000000 in
theorem Jvh (key : ByteArray) (p : Pt) (hp : PtOK p) : Ev prog 58 [Str key, PTP p] (.tup [.mp ((evM (evF key p)).map entS), B (Jcz key p)]) := by
 have c1 := JeP key p hp
 have he : evF key p = if Jcz key p = true then preF p else [] := rfl
 rw [he]; clear he
 obtain ⟨⟨c, n, r, s⟩, l⟩ := p
 obtain ⟨hp1, hp2, hp3⟩ := hp
 have hpre : preF ⟨⟨c, n, r, s⟩, l⟩ = preN 0 l := rfl
 rw [hpre]
 simp only at *
 generalize Jcz key ⟨⟨c, n, r, s⟩, l⟩ = g at *
 refine EW [3, 12] func58 ?_
 simp -implicitDefEqProofs (disch := omega) only [go_sem, ntmps58]
 refine JnP ?_
 simp -implicitDefEqProofs (disch := omega) only [go_sem]
 refine Jaa c1 ?_
 cases g with
 | false =>
  rw [if_neg (by decide)]
  simp -implicitDefEqProofs (disch := omega) only [go_sem]
  refine JaW Plain.mono [123732144] ?_
  simp -implicitDefEqProofs (disch := omega) only [go_sem]; simp -implicitDefEqProofs (disch := omega) only [go_sem, results58]; try rfl
 | true =>
 rw [if_pos rfl]
 obtain ⟨FM, hFM⟩ : ∃ FM, evM (preN 0 l) = FM := ⟨_, rfl⟩
 rw [hFM]
 have hFM : FM = addM (mI []) 0 (preN 0 (l.drop 0)) := hFM.symm
 simp -implicitDefEqProofs (disch := omega) only [go_sem]
 refine Jag (λ k E σ => ∃ (i : Nat) (N : List (ByteArray × Nat)), i + k = l.length /\ FM = addM (mI N) i (preN i (l.drop i)) /\ E 6 = .mref 123732144 /\ E 18 = ITS l /\ E 19 = I l.length /\ E 20 = I i /\ σ 123732144 = some ⟨156, 0, (mI N).map entS⟩) l.length ⟨0, [], by omega, hFM, ?_⟩ ?_
 . simp -implicitDefEqProofs (disch := omega) only [go_sem]
   exact ⟨rfl, rfl⟩
 rintro k E σ ⟨i, N, hk, hx, e6, e18, e19, e20, m6⟩
 simp -implicitDefEqProofs (disch := omega) only [go_sem, e6, e18, e19, e20, m6]
 have fin : ∀ (N : List (ByteArray × Nat)), FM = mI N -> True := λ _ _ => trivial
 refine Jab (λ hc => ?_) (λ hc => ?_)
 . have hi : i < l.length := by omega
   have hdec : l.length - (i + 1) < k /\ i + 1 + (l.length - (i + 1)) = l.length := by omega
   rw [Ja6 l i hi, preN] at hx; simp -implicitDefEqProofs (disch := omega) only [go_sem, e6, e18, e19, e20, m6]
   refine Jab (λ h1 => ?_) (λ h1 => ?_)
   . rw [if_neg (by omega)] at hx
     have hx : FM = mI N := hx
     subst hx; simp -implicitDefEqProofs (disch := omega) only [go_sem, e6, e18, e19, e20, m6]
     refine JaW Plain.mono [123732144] ?_
     simp -implicitDefEqProofs (disch := omega) only [go_sem, e6, e18, e19, e20, m6]; simp -implicitDefEqProofs (disch := omega) only [go_sem, e6, e18, e19, e20, m6, results58]
   . rw [if_pos (by omega), addM] at hx
     simp -implicitDefEqProofs (disch := omega) only [go_sem, e6, e18, e19, e20, m6]
     refine JnN (kt := 9) (et := 3) (id := 123732144) (e := 156) (l := mI N) (n := (gd l i).e) ?_ ?_ ?_ Jrf Jtd tz_i (λ v hv => ?_) (λ hv => ?_)
     . simp -implicitDefEqProofs (disch := omega) only [go_sem, e6, e18, e19, e20, m6]
     . simp -implicitDefEqProofs (disch := omega) only [go_sem, e6, e18, e19, e20, m6]
     . simp -implicitDefEqProofs (disch := omega) only [go_sem, e6, e18, e19, e20, m6]
     . rw [hv] at hx
       obtain ⟨v', rfl⟩ := Jx8 hv
       simp only at hx
       simp -implicitDefEqProofs (disch := omega) only [go_sem, e6, e18, e19, e20, m6]
       refine Jad (l.length - (i + 1)) hdec.1 ⟨i + 1, N, hdec.2, hx, ?_⟩
       simp -implicitDefEqProofs (disch := omega) only [go_sem, e6, e18, e19, e20, m6]; try rfl
     . rw [hv] at hx
       simp only at hx
       rw [Jlp] at hx; have hput := (JmM (I i) hv).trans (Jlp ..); simp -implicitDefEqProofs (disch := omega) only [go_sem, e6, e18, e19, e20, m6]
       refine JiM (kt := 9) (et := 3) (id := 123732144) (e := 156) (l := mI N) (n := (gd l i).e) ?_ ?_ ?_ Jrf Jtd ?_
       . simp -implicitDefEqProofs (disch := omega) only [go_sem, e6, e18, e19, e20, m6]
       . simp -implicitDefEqProofs (disch := omega) only [go_sem, e6, e18, e19, e20, m6]
       . simp -implicitDefEqProofs (disch := omega) only [go_sem, e6, e18, e19, e20, m6]
       . simp -implicitDefEqProofs (disch := omega) only [go_sem, e6, e18, e19, e20, m6]; rw [hput]
         refine Jad (l.length - (i + 1)) hdec.1 ⟨i + 1, N ++ [((gd l i).e, i)], hdec.2, hx, ?_⟩
         simp -implicitDefEqProofs (disch := omega) only [go_sem, e6, e18, e19, e20, m6]; try rfl
 . obtain rfl : i = l.length := by omega
   rw [L0X] at hx
   have hx : FM = mI N := hx
   subst hx; simp -implicitDefEqProofs (disch := omega) only [go_sem, e6, e18, e19, e20, m6]
   refine JaW Plain.mono [123732144] ?_
   simp -implicitDefEqProofs (disch := omega) only [go_sem, e6, e18, e19, e20, m6]; simp -implicitDefEqProofs (disch := omega) only [go_sem, e6, e18, e19, e20, m6, results58]
theorem JhZ {S : Sp} {dst : Option Nat} {t ty kt et : TypeId} {x y : Operand} {K : Env -> Jac -> Prop} {E : Env} {σ : Jac} {l : List (ByteArray × AV)} {n : ByteArray} {o : Option Nat}
 (d : Jby n l = o.map λ p => I p) (i : ev E x = .mp (l.map entS)) (j : ev E y = .v (.string n)) (g : S.P.underlying t = some (.map kt et)) (f : S.P.underlying kt = some .string) (k : tz S.P et = some (.int .i64 0))
 (h : K (updO E dst (.tup [I (o.getD 0 : Nat), B o.isSome])) σ)
 (c : (dst.all (decide <| · < S.N) && Op.low S.N (.lookup t x y true)) = true := by kernel_rfl) : semD S dst (.lookup t x y true) ty K E σ := by
 refine JnM i j g f k (λ v b => ?_) (λ b => ?_) c
 . cases o with
   | none => rw [d] at b; cases b
   | some a =>
    rw [d] at b
    cases b
    exact h
 . cases o with
   | some a => rw [d] at b; cases b
   | none => exact h
theorem JtX : prog.underlying 156 = some (.map 9 3) := by kernel_rfl
theorem Jmi (L : List ByteArray) (u w : ByteArray) : Ev prog 114 [.mp ((evM L).map entS), Str u, Str w] (I (JcA L u w)) := by
 have f := JpA u L; have g := JpA w L; have c := Jny L u w; generalize JcA L u w = z at *; generalize evM L = M at *; generalize posE u L 0 = x at *; generalize posE w L 0 = y at *
 have i : ((u.toList == w.toList)) = decide (u = w) := Jht u w
 refine EV func114 ?_
 simp -implicitDefEqProofs (disch := omega) only [go_sem, ntmps114]
 refine JhZ (l := M) (n := u) (kt := 9) (et := 3) f ?_ ?_ JtX Jtd tz_i ?_
 . simp -implicitDefEqProofs (disch := omega) only [go_sem]
 . simp -implicitDefEqProofs (disch := omega) only [go_sem]
 simp -implicitDefEqProofs (disch := omega) only [go_sem]
 refine JhZ (l := M) (n := w) (kt := 9) (et := 3) g ?_ ?_ JtX Jtd tz_i ?_
 . simp -implicitDefEqProofs (disch := omega) only [go_sem]
 . simp -implicitDefEqProofs (disch := omega) only [go_sem]
 simp -implicitDefEqProofs (disch := omega) only [go_sem, i]
 refine Jab (λ d => ?_) (λ d => ?_)
 . rw [if_pos d] at c; subst c; simp -implicitDefEqProofs (disch := omega) only [go_sem, results114]
 rw [if_neg d] at c
 cases x with
 | none => cases y with
  | none => subst c; simp -implicitDefEqProofs (disch := omega) only [go_sem, Option.isSome, Option.getD, results114]; try rfl
  | some b => subst c; simp -implicitDefEqProofs (disch := omega) only [go_sem, Option.isSome, Option.getD, results114]; try rfl
 | some a => cases y with
  | none => subst c; simp -implicitDefEqProofs (disch := omega) only [go_sem, Option.isSome, Option.getD, results114]; try rfl
  | some b =>
   simp -implicitDefEqProofs (disch := omega) only [go_sem, Option.isSome, Option.getD]
   refine Jab (λ h => ?_) (λ h => ?_)
   . have : fstP (some a) (some b) = 1 := if_pos (by omega)
     rw [this] at c; subst c; simp -implicitDefEqProofs (disch := omega) only [go_sem, results114]
   . have : fstP (some a) (some b) = 2 := if_neg (by omega)
     rw [this] at c; subst c; simp -implicitDefEqProofs (disch := omega) only [go_sem, results114]
def bilW (o : Option Sn) (f : Int) (b c : Option Sn) : (Int × Int) × Int := match o with
 | some s => (Jdu s, 0)
 | none =>
  if f = 1 then (match b with | some s => (Jdu s, 1) | none => ((0, 0), 0))
  else if f = 2 then (match c with | some s => (Jdu s, 2) | none => ((0, 0), 0))
  else ((0, 0), 0)
theorem JrN (L : List ByteArray) (a b : Ck) (l : Lg) : Jgh L a b l = bilW (JeI a b l) (JcA L (recF l 1) (recF l 2)) (Jdy a l.g) (Jdy b l.k) := rfl
abbrev biV (w : (Int × Int) × Int) : AV := .tup [WNP w.1, I w.2]
set_option maxHeartbeats 2000000 in
theorem JoS (L : List ByteArray) (a b : Ck) (l : Lg) (hl : legF l = true) (ha : a.r.length <= 9223372036854775807) (hb : b.r.length <= 9223372036854775807) : Ev prog 73 [.mp ((evM L).map entS), CKP a, CKP b, LGP l] (biV (Jgh L a b l)) := by
 have c1 := Joz a b l ha hb; have c2 := JtR l 1; have c3 := JtR l 2
 have r1 : recV l 1 = .tup [Str (recF l 1), I 0] := if_pos ⟨hl, by omega⟩
 have r2 : recV l 2 = .tup [Str (recF l 2), I 0] := if_pos ⟨hl, by omega⟩
 rw [r1] at c2; rw [r2] at c3; have c4 := Jmi L (recF l 1) (recF l 2); have c5 := Jgz a l.g ha; have c6 := Jgz b l.k hb; have hf := Jps L (recF l 1) (recF l 2); rw [JrN]
 obtain ⟨N, hN⟩ := JjH L
 rw [hN] at c4 ⊢; clear r1 r2; generalize JeI a b l = o at *; generalize JcA L (recF l 1) (recF l 2) = f at *; generalize recF l 1 = R1 at *; generalize recF l 2 = R2 at *; generalize Jdy a l.g = sa at *; generalize Jdy b l.k = sb at *; obtain ⟨ad, ar⟩ := a; obtain ⟨bd, br⟩ := b; obtain ⟨lf, lt, lg, lk⟩ := l
 simp only at *
 refine EW [7, 9] func73 ?_
 simp -implicitDefEqProofs (disch := omega) only [go_sem, ntmps73]
 cases o with
 | some s =>
  refine Jaa c1 ?_
  simp -implicitDefEqProofs (disch := omega) only [go_sem]
  refine Jaa (JkY s) ?_
  simp -implicitDefEqProofs (disch := omega) only [go_sem, results73]; try rfl
 | none =>
 refine Jaa c1 ?_
 simp -implicitDefEqProofs (disch := omega) only [go_sem]
 refine Jaa c2 ?_
 simp -implicitDefEqProofs (disch := omega) only [go_sem]
 refine Jaa c3 ?_
 simp -implicitDefEqProofs (disch := omega) only [go_sem]
 refine Jaa c4 ?_
 simp -implicitDefEqProofs (disch := omega) only [go_sem]
 refine Jgu (λ D E σ => E 0 = .mp ((mI N).map entS) /\ E 5 = .ptr 155189328 2 0 0 /\ E 6 = .ptr 155189344 2 0 0 /\ E 7 = .ptr 155189360 6 0 0 /\ E 8 = .ptr 155189376 2 0 0 /\ E 16 = I f /\ σ 155189328 = some ⟨93, 2, [.agg [I ad, RDS ar]]⟩ /\ σ 155189344 = some ⟨93, 2, [.agg [I bd, RDS br]]⟩ /\ σ 155189360 = some ⟨62, 6, [.agg [I lf, I lt, I lg.b, I lg.e, I lk.b, I lk.e]]⟩ /\ σ 155189376 = some ⟨56, 2, [.agg [I 0, I 0]]⟩ /\ (D 5 = true -> D 3 = true) /\ (D 6 = true -> D 4 = true) /\ (D 3 = true -> D 5 = false -> σ 155189520 = some ⟨93, 2, [.agg [I 0, .v (.slice none 0 0)]]⟩) /\ (D 5 = true -> σ 155189520 = some ⟨93, 2, [.agg [I ad, RDS ar]]⟩) /\ (D 4 = true -> D 6 = false -> σ 155189536 = some ⟨60, 2, [.agg [I 0, I 0]]⟩) /\ (D 6 = true -> σ 155189536 = some ⟨60, 2, [.agg [I lg.b, I lg.e]]⟩) /\ (D 0 = true -> E 45 = .agg [I ad, RDS ar]) /\ (D 1 = true -> E 46 = .ptr 155189360 6 0 2) /\ (D 2 = true -> E 47 = .agg [I lg.b, I lg.e]) /\ (D 3 = true -> E 17 = .ptr 155189520 2 0 0) /\ (D 4 = true -> E 18 = .ptr 155189536 2 0 0)) ?_ ?_ ?_
 . simp -implicitDefEqProofs (disch := omega) only [go_sem, false_and, and_self]; try simp
 . simp only [Jhr, depK, Region.binds, eq_self, forall_const, and_true]
   repeat' apply And.intro
   all_goals
    rintro D E σ ⟨e0, e5, e6, e7, e8, e16, m5, m6, m7, m8, c5_3, c6_4, m0_0, m0_1, m1_0, m1_1, j0, j1, j2, j3, j4⟩ hd
    have k := And.intro trivial <| And.intro (cK c5_3) <| And.intro (cK c6_4) trivial
    simp -implicitDefEqProofs (disch := first | assumption | (simp only [hd, k]; done) | omega) only [go_sem, e0, e5, e6, e7, e8, e16, m5, m6, m7, m8, m0_0, m0_1, m1_0, m1_1, j0, j1, j2, j3, j4, false_and, and_self]
    repeat' apply And.intro
    all_goals first | assumption | (intro _; assumption) | trivial | (simp -implicitDefEqProofs (contextual := true) (disch := first | assumption | omega) only [go_sem, m0_0, m0_1, m1_0, m1_1, j0, j1, j2, j3, j4, hd, c5_3, c6_4, k, implies_true, forall_const, false_implies, true_implies]; done) | (intro h; intros; exfalso; simp (maxDischargeDepth := 9) [hd, k] at h; done) | (intros; contradiction) | trace_state
 . rintro D E σ hD ⟨e0, e5, e6, e7, e8, e16, m5, m6, m7, m8, c5_3, c6_4, m0_0, m0_1, m1_0, m1_1, j0, j1, j2, j3, j4⟩
   have g0 := m0_1 (hD 5 (by decide))
   have g1 := m1_1 (hD 6 (by decide))
   have q0 := j0 (hD 0 (by decide))
   have q1 := j1 (hD 1 (by decide))
   have q2 := j2 (hD 2 (by decide))
   have q3 := j3 (hD 3 (by decide))
   have q4 := j4 (hD 4 (by decide))
   clear c5_3 c6_4 m0_0 m0_1 m1_0 m1_1 j0 j1 j2 j3 j4 hD
   have hfc : f = 0 \/ f = 1 \/ f = 2 := by omega
   rcases hfc with rfl | rfl | rfl
   . cases sa with
     | none =>
      simp -implicitDefEqProofs (disch := omega) only [go_sem, e0, e5, e6, e7, e8, e16, m5, m6, m7, m8, q3, q4, g0, g1]
      refine Jaa c5 ?_
      simp -implicitDefEqProofs (disch := omega) only [go_sem, e0, e5, e6, e7, e8, e16, m5, m6, m7, m8, q3, q4, g0, g1, results73]; try rfl
     | some s =>
      simp -implicitDefEqProofs (disch := omega) only [go_sem, e0, e5, e6, e7, e8, e16, m5, m6, m7, m8, q3, q4, g0, g1]
      refine Jaa c5 ?_
      simp -implicitDefEqProofs (disch := omega) only [go_sem, e0, e5, e6, e7, e8, e16, m5, m6, m7, m8, q3, q4, g0, g1, results73]; try rfl
   . cases sa with
     | none =>
      simp -implicitDefEqProofs (disch := omega) only [go_sem, e0, e5, e6, e7, e8, e16, m5, m6, m7, m8, q3, q4, g0, g1]
      refine Jaa c5 ?_
      simp -implicitDefEqProofs (disch := omega) only [go_sem, e0, e5, e6, e7, e8, e16, m5, m6, m7, m8, q3, q4, g0, g1, results73]; try rfl
     | some s =>
      simp -implicitDefEqProofs (disch := omega) only [go_sem, e0, e5, e6, e7, e8, e16, m5, m6, m7, m8, q3, q4, g0, g1]
      refine Jaa c5 ?_
      simp -implicitDefEqProofs (disch := omega) only [go_sem, e0, e5, e6, e7, e8, e16, m5, m6, m7, m8, q3, q4, g0, g1]
      refine Jaa (JkY s) ?_
      simp -implicitDefEqProofs (disch := omega) only [go_sem, e0, e5, e6, e7, e8, e16, m5, m6, m7, m8, q3, q4, g0, g1, results73]; try rfl
   . simp -implicitDefEqProofs (disch := omega) only [go_sem, e0, e5, e6, e7, e8, e16, m5, m6, m7, m8, q3, q4, g0, g1]
     refine Jgu (λ D E σ => E 0 = .mp ((mI N).map entS) /\ E 5 = .ptr 155189328 2 0 0 /\ E 6 = .ptr 155189344 2 0 0 /\ E 7 = .ptr 155189360 6 0 0 /\ E 8 = .ptr 155189376 2 0 0 /\ E 16 = I 2 /\ σ 155189328 = some ⟨93, 2, [.agg [I ad, RDS ar]]⟩ /\ σ 155189344 = some ⟨93, 2, [.agg [I bd, RDS br]]⟩ /\ σ 155189360 = some ⟨62, 6, [.agg [I lf, I lt, I lg.b, I lg.e, I lk.b, I lk.e]]⟩ /\ σ 155189376 = some ⟨56, 2, [.agg [I 0, I 0]]⟩ /\ E 17 = .ptr 155189520 2 0 0 /\ E 18 = .ptr 155189536 2 0 0 /\ (D 3 = false -> σ 155189520 = some ⟨93, 2, [.agg [I ad, RDS ar]]⟩) /\ (D 3 = true -> σ 155189520 = some ⟨93, 2, [.agg [I bd, RDS br]]⟩) /\ (D 4 = false -> σ 155189536 = some ⟨60, 2, [.agg [I lg.b, I lg.e]]⟩) /\ (D 4 = true -> σ 155189536 = some ⟨60, 2, [.agg [I lk.b, I lk.e]]⟩) /\ (D 0 = true -> E 50 = .agg [I bd, RDS br]) /\ (D 1 = true -> E 51 = .ptr 155189360 6 0 4) /\ (D 2 = true -> E 52 = .agg [I lk.b, I lk.e])) ?_ ?_ ?_
     . simp -implicitDefEqProofs (disch := omega) only [go_sem, q3, q4, g0, g1, false_and, and_self]
       refine ⟨e0, e5, e6, e7, e8, e16, m5, m6, m7, m8, ?_⟩; simp
     . simp only [Jhr, depK, Region.binds, eq_self, forall_const, and_true]
       repeat' apply And.intro
       all_goals
        rintro D E σ ⟨e0, e5, e6, e7, e8, e16, m5, m6, m7, m8, e17, e18, m0_0, m0_1, m1_0, m1_1, j0, j1, j2⟩ hd
        simp -implicitDefEqProofs (disch := first | assumption | (simp only [hd]; done) | omega) only [go_sem, e0, e5, e6, e7, e8, e16, m5, m6, m7, m8, e17, e18, m0_0, m0_1, m1_0, m1_1, j0, j1, j2, q3, q4, g0, g1, false_and, and_self]
        repeat' apply And.intro
        all_goals first | assumption | (intro _; assumption) | trivial | (simp -implicitDefEqProofs (contextual := true) (disch := first | assumption | omega) only [go_sem, m0_0, m0_1, m1_0, m1_1, j0, j1, j2, hd, implies_true, forall_const, false_implies, true_implies]; done) | (intros; contradiction) | trace_state
     . rintro D E σ hD ⟨e0, e5, e6, e7, e8, e16, m5, m6, m7, m8, e17, e18, m0_0, m0_1, m1_0, m1_1, j0, j1, j2⟩
       have g0 := m0_1 (hD 3 (by decide))
       have g1 := m1_1 (hD 4 (by decide))
       have q0 := j0 (hD 0 (by decide))
       have q1 := j1 (hD 1 (by decide))
       have q2 := j2 (hD 2 (by decide))
       clear m0_0 m0_1 m1_0 m1_1 j0 j1 j2 hD
       cases sb with
       | none =>
        simp -implicitDefEqProofs (disch := omega) only [go_sem, e0, e5, e6, e7, e8, e16, m5, m6, m7, m8, e17, e18, g0, g1]
        refine Jaa c6 ?_
        simp -implicitDefEqProofs (disch := omega) only [go_sem, e0, e5, e6, e7, e8, e16, m5, m6, m7, m8, e17, e18, g0, g1, results73]; try rfl
       | some s =>
        simp -implicitDefEqProofs (disch := omega) only [go_sem, e0, e5, e6, e7, e8, e16, m5, m6, m7, m8, e17, e18, g0, g1]
        refine Jaa c6 ?_
        simp -implicitDefEqProofs (disch := omega) only [go_sem, e0, e5, e6, e7, e8, e16, m5, m6, m7, m8, e17, e18, g0, g1]
        refine Jaa (JkY s) ?_
        simp -implicitDefEqProofs (disch := omega) only [go_sem, e0, e5, e6, e7, e8, e16, m5, m6, m7, m8, e17, e18, g0, g1, results73]; try rfl
theorem Jkg (l : List Int) (i : Nat) (k : l.length <= 9223372036854775807) (hi : i <= 1000) : Ev prog 26 [SL l, I i] (I (numF l i)) := by
 have g : ((l.length : Int) == 0) = decide (l.length = 0) := by rw [L1c]; simp
 refine EV func26 ?_
 simp -implicitDefEqProofs (disch := omega) only [go_sem, ntmps26]
 refine Jab (λ h => ?_) (λ h => ?_)
 . have b : l = [] := L0Y (by omega)
   have c : numF l i = 0 := if_pos b
   rw [c]; simp -implicitDefEqProofs (disch := omega) only [go_sem, results26]
 . have b : l ≠ [] := λ e => h (by rw [e]; rfl)
   have c : numF l i = gd l (i % l.length) := if_neg b
   rw [c]
   have f : ((i : Int)).tmod l.length = ((i % l.length : Nat) : Int) := by rw [L0V (by omega)]; omega
   have d : i % l.length < l.length := L1k _ (by omega)
   generalize i % l.length = j at *; simp -implicitDefEqProofs (disch := omega) only [go_sem, f, results26]
theorem Jmt : Ev prog 22 [] (Str (keyF 0)) := by
 have c := Jx3 0 (by omega)
 refine EV func22 ?_
 simp -implicitDefEqProofs (disch := omega) only [go_sem, ntmps22]
 refine Jaa c ?_
 simp -implicitDefEqProofs (disch := omega) only [go_sem, results22]
theorem Jus {P : Program} {f : FuncId} {args : List AV} {cs c : List AV} (h : Ev P f args (.agg cs)) (m : (AV.agg cs).asIf (.agg c)) : Ev P f args (.agg c) := by
 intro b D o
 obtain ⟨rfl, rfl⟩ := o
 obtain ⟨j, k⟩ := h b _ ⟨rfl, rfl⟩
 refine ⟨j, λ w i vs q p g => ?_⟩
 refine (k w i vs q p g).mono λ B E s => ?_
 obtain ⟨y, rfl, u, d, z, A, C, ⟨rfl, t⟩, l⟩ := s
 exact ⟨_, rfl, u, d, z, A, none, ⟨rfl, m _ _ _ t⟩, l⟩
abbrev HPS (l : List (Int × Int)) : AV := .sl 2 (l.map λ h => .agg [I h.1, I h.2])
abbrev CRS (l : List Cr) : AV := .sl 4 (l.map CRP)
abbrev QP (q : Q4) : AV := .agg [I q.a, I q.b, I q.c, I q.d]
abbrev QL (x : List Q4) : AV := .sl 4 (x.map QP)
abbrev NMP (x : Nm) : AV := .agg [HPS x.hops, QTS x.legs, CRS x.crs, SL x.bases, QL x.rates, SL x.offs, SL x.wit]
theorem Jti : (AV.agg [I 0, I 0, .v (.slice none 0 0), .v (.slice none 0 0)]).asIf (CRP ⟨0, 0, [], []⟩) := by
 intro w k y h
 cases h with
 | agg _ ys i g d =>
  refine .agg _ ys i g λ j c y b f => ?_
  match j with
  | 0 => exact d 0 c y b f
  | 1 => exact d 1 c y b f
  | 2 =>
   have := d 2 _ y rfl f
   cases b
   cases this
   exact .slnil ..
  | 3 =>
   have := d 3 _ y rfl f
   cases b
   cases this
   exact .slnil ..
  | j + 4 => simp at b
section
variable (p : Nat -> Bool) (l : List Cr)
@[go_sem] theorem Jwp : AV.namesL p (l.map CRP) = false := Jaj p l CRP λ _ => rfl
@[go_sem] theorem Jw2 : Jbq 4 (l.map CRP) = true := Jaw 4 l CRP λ _ => ⟨rfl, rfl⟩
end
theorem JgP (x : Nm) (c : Nat) (u : x.crs.length <= 9223372036854775807) (t : c <= 1000) : Ev prog 24 [NMP x, I c] (CRP (crsF x c)) := by
 have s : ((x.crs.length : Int) == 0) = decide (x.crs.length = 0) := by rw [L1c]; simp
 by_cases hn : x.crs = []
 . have f : crsF x c = ⟨0, 0, [], []⟩ := if_pos hn
   rw [f]
   refine Jus ?_ Jti
   obtain ⟨k, l, b, m, o, p, q⟩ := x
   simp only at *
   subst hn
   refine EV func24 ?_
   simp -implicitDefEqProofs (disch := omega) only [go_sem, ntmps24, L0E, L0w]
   refine Jab (λ h => ?_) (λ h => absurd rfl h)
   simp -implicitDefEqProofs (disch := omega) only [go_sem, results24]
 . have f : crsF x c = gd x.crs (c % x.crs.length) := if_neg hn
   have d : 0 < x.crs.length := L1f.2 hn
   rw [f]; obtain ⟨k, l, b, m, o, p, q⟩ := x
   simp only at *
   have i : ((c : Int)).tmod b.length = ((c % b.length : Nat) : Int) := by rw [L0V (by omega)]; omega
   have g : c % b.length < b.length := L1k _ d
   generalize c % b.length = j at *
   refine EV func24 ?_
   simp -implicitDefEqProofs (disch := omega) only [go_sem, ntmps24]
   refine Jab (λ h => absurd h (by omega)) (λ h => ?_)
   simp -implicitDefEqProofs (disch := omega) only [go_sem, i, results24]
theorem Jrj (v : Nat) (f : v <= 100) : Ev prog 28 [I v] (Str (updS v)) := by
 have c : IntKind.u8.wrap (65 + (v : Int)) = ((65 + v : Nat) : Int) := by simp [IntKind.wrap, IntKind.bits, IntKind.signed]; omega
 have d : strOfNums [((65 + v : Nat) : Int)] = ⟨#[UInt8.ofNat (65 + v)]⟩ := rfl
 refine EV func28 ?_
 simp -implicitDefEqProofs (disch := omega) only [go_sem, ntmps28, c]
 refine JcJ [((65 + v : Nat) : Int)] (by simp -implicitDefEqProofs (disch := omega) only [go_sem]; try rfl) (by intro b; simp -implicitDefEqProofs (disch := omega) only [go_sem]; intro e; cases e) (e := 5) rfl rfl rfl ?_
 rw [d]; simp -implicitDefEqProofs (disch := omega) only [go_sem, results28, L10, L0c, L0w, L0q]; try rfl
def Q4ok (q : Q4) : Prop := R64 q.a /\ R64 q.b /\ R64 q.c /\ R64 q.d
section
variable (p : Nat -> Bool) (l : List Q4)
@[go_sem] theorem Jyd : AV.namesL p (l.map QP) = false := Jaj p l QP λ _ => rfl
@[go_sem] theorem Jzm : Jbq 4 (l.map QP) = true := Jaw 4 l QP λ _ => ⟨rfl, rfl⟩
end
set_option maxHeartbeats 1000000 in
theorem Jrc (b : Int) (x : List Q4) (hb : R64 b) (hx : ∀ q ∈ x, Q4ok q) (hn : x.length <= 9223372036854775807) : Ev prog 25 [I b, QL x] (TF (tfQ b x)) := by
 have p0 := Jai (c := b) (n := 2000) (by omega)
 have e0 := JaG b 2000 hb (by omega)
 have hm : tfQ b x = ⟨(x.take 4).map JfL, Jaf b 2000⟩ := rfl
 rw [hm]; clear hm
 obtain ⟨Z, hZ⟩ : ∃ Z, (x.take 4).map JfL = Z := ⟨_, rfl⟩
 rw [hZ]; generalize Jaf b 2000 = pb at *
 refine EW [2, 7] func25 ?_
 simp -implicitDefEqProofs (disch := omega) only [go_sem, ntmps25]
 refine Jaa e0 ?_
 simp -implicitDefEqProofs (disch := omega) only [go_sem]
 refine Jbp 54526032 54526033 0 0 141 4 (k := ⟨100, 2, [.agg [.v (.slice none 0 0), I pb]]⟩) (el := .agg [.v (.slice none 0 0), I pb]) (by simp -implicitDefEqProofs (disch := omega) only [go_sem]) (by decide) rfl rfl (by simp) (by simp -implicitDefEqProofs (disch := omega) only [go_sem]) rfl ?_
 refine Jel Plain.mono ?_
 simp -implicitDefEqProofs (disch := omega) only [go_sem]
 refine Jag (λ n E σ => ∃ i : Nat, i + n = 4 /\ i <= x.length /\ E 1 = QL x /\ E 4 = .ptr 54526016 2 0 0 /\ E 5 = .ptr 54526032 2 0 0 /\ E 6 = I i /\ σ 54526016 = some ⟨100, 2, [.agg [.v (.slice none 0 0), I 0]]⟩ /\ σ 54526032 = some ⟨100, 2, [.agg [.own 54526033 4 0 i, I pb]]⟩ /\ σ 54526033 = some ⟨141, 4, ((x.take i).map JfL).map TP⟩) 4 ⟨0, by omega, by omega, ?_⟩ ?_
 . simp -implicitDefEqProofs (disch := omega) only [go_sem]; try rfl
 rintro n E σ ⟨i, hi, hix, e1, e4, e5, e6, m4, m5, mr⟩
 have htl : ((x.take i).map JfL).length = i := by simp; omega
 have fin : i = 4 \/ i = x.length -> Z = (x.take i).map JfL := λ h => by
  rw [<- hZ]
  rcases h with rfl | rfl
  . rfl
  . rw [L05, L03 (by omega)]
 simp -implicitDefEqProofs (disch := omega) only [go_sem, e1, e4, e5, e6, m4, m5, mr, false_and, and_self]
 refine Jab (λ hc => ?_) (λ hc => ?_)
 . simp -implicitDefEqProofs (disch := omega) only [go_sem, e1, e4, e5, e6, m4, m5, mr, false_and, and_self]
   refine Jab (λ hc2 => ?_) (λ hc2 => ?_)
   . obtain ⟨q1, q2, q3, q4⟩ := hx _ (Jan x i (by omega))
     have a1 := Jai (c := (gd x i).a) (n := 127) (by omega)
     have a2 := Jai (c := (gd x i).b) (n := 48) (by omega)
     have a5 := Jai (c := (gd x i).d) (n := 2000) (by omega)
     have a6 := Jai (c := (gd x i).c) (n := 86400 - 1800 * Jaf (gd x i).b 48) (by omega)
     have c1 := JaG (gd x i).a 127 q1 (by omega)
     have c2 := JaG (gd x i).b 48 q2 (by omega)
     have c3 := JaG (gd x i).d 2000 q4 (by omega)
     have c4 := JaG (gd x i).c (86400 - 1800 * Jaf (gd x i).b 48) q3 (by omega)
     have htk : (x.take (i + 1)).map JfL = (x.take i).map JfL ++ [JfL (gd x i)] := by rw [L0D, JaA x i (by omega)]; simp
     have hr : JfL (gd x i) = ⟨1 + Jaf (gd x i).a 127, 1800 * Jaf (gd x i).b 48, 1800 * Jaf (gd x i).b 48 + 1 + Jaf (gd x i).c (86400 - 1800 * Jaf (gd x i).b 48), Jaf (gd x i).d 2000⟩ := rfl
     generalize (x.take i).map JfL = q at *; generalize JfL (gd x i) = r at *; generalize Jaf (gd x i).a 127 = u1 at *; generalize Jaf (gd x i).b 48 = u2 at *; generalize Jaf (gd x i).d 2000 = u5 at *; generalize Jaf (gd x i).c (86400 - 1800 * u2) = u6 at *
     have hqt : q.take i = q := L03 (by omega)
     simp -implicitDefEqProofs (disch := omega) only [go_sem, e1, e4, e5, e6, m4, m5, mr, false_and, and_self]
     refine Jaa c2 ?_
     simp -implicitDefEqProofs (disch := omega) only [go_sem, e1, e4, e5, e6, m4, m5, mr, false_and, and_self]
     refine Jaa c1 ?_
     simp -implicitDefEqProofs (disch := omega) only [go_sem, e1, e4, e5, e6, m4, m5, mr, false_and, and_self]
     refine Jaa c4 ?_
     simp -implicitDefEqProofs (disch := omega) only [go_sem, e1, e4, e5, e6, m4, m5, mr, false_and, and_self]
     refine Jaa c3 ?_
     simp -implicitDefEqProofs (disch := omega) only [go_sem, e1, e4, e5, e6, m4, m5, mr, htl, hqt, false_and, and_self]
     refine Jad (4 - (i + 1)) (by omega) ⟨i + 1, by omega, by omega, ?_⟩
     rw [htk, hr]; simp -implicitDefEqProofs (disch := omega) only [go_sem, e1, e4, e5, e6, m4, m5, mr, htl, hqt, false_and, and_self]; try simp
   . have hf := fin (.inl (by omega))
     rw [<- hf] at mr htl
     have hqt : Z.take i = Z := L03 (by omega)
     simp -implicitDefEqProofs (disch := omega) only [go_sem, e1, e4, e5, e6, m4, m5, mr, false_and, and_self]
     refine JaW Plain.mono [54526032, 54526033] ?_
     simp -implicitDefEqProofs (disch := omega) only [go_sem, e1, e4, e5, e6, m4, m5, mr, hqt, L0b, htl]; simp -implicitDefEqProofs (disch := omega) only [go_sem, e1, e4, e5, e6, m4, m5, mr, hqt, L0b, htl, results25]
 . have hf := fin (.inr (by omega))
   rw [<- hf] at mr htl
   have hqt : Z.take i = Z := L03 (by omega)
   simp -implicitDefEqProofs (disch := omega) only [go_sem, e1, e4, e5, e6, m4, m5, mr, false_and, and_self]
   refine JaW Plain.mono [54526032, 54526033] ?_
   simp -implicitDefEqProofs (disch := omega) only [go_sem, e1, e4, e5, e6, m4, m5, mr, hqt, L0b, htl]; simp -implicitDefEqProofs (disch := omega) only [go_sem, e1, e4, e5, e6, m4, m5, mr, hqt, L0b, htl, results25]
end Go.Proofs.YtlecbpkidomjbaaGreatDoor

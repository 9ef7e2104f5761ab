/- What is shown, who is first, what is billed -/
import Derived.Test.YtlecbpkidomjbaaGreatDoorKG
set_option linter.all false
set_option maxRecDepth 100000
namespace Go.Proofs.YtlecbpkidomjbaaGreatDoor
open Go.Proofs.Tryz
open Go.Vai Go Go.Proofs
def sigB (a : ByteArray) (r : Rg) (n : Int) : Bool := decide (a.size = 32) && (regB r && decide (0 <= n /\ n <= r.l.length))
theorem JgH {a : ByteArray} {r : Rg} {n : Int} : sigB a r n = true ↔ a.size = 32 /\ regB r = true /\ 0 <= n /\ n <= r.l.length := by
 unfold sigB; simp only [L00, decide_eq_true_iff]
theorem JhZ {r : Rg} (h : regB r = true) {l : List ByteArray} (a : ∀ s ∈ l, s ∈ r.l) : ∀ s ∈ l, s.size <= 1000000 := λ s b => by
 have := (Jea.1 h).2.2 s (a s b); omega
theorem JmL (a : ByteArray) (r : Rg) (n : Nat) : HDP (JiU a r n) = .agg [I r.c, I n, Str (Jcz (r.l.take n)), Str (Jfh a ⟨r.c, n, Jcz (r.l.take n), default⟩)] := rfl
theorem JvT : Str (default : ByteArray) = Str ⟨#[]⟩ := rfl
set_option maxHeartbeats 1000000 in
theorem Jtg (a : ByteArray) (r : Rg) (n : Nat) (h : sigB a r n = true) : Ev prog 94 [Str a, RGP r, I n] (.tup [HDP (JiU a r n), I 0]) := by
 obtain ⟨p, b, q, t⟩ := JgH.1 h
 have k := Jea.1 b
 have f := JhA r (by omega)
 have g := JfG n 0 r.l.length
 have o : (r.l.take n).length = n := by rw [L01]; omega
 have j := Jff _ (r.l.take n) (L09 _) (by omega) (JhZ b λ s m => L0J m)
 have i := Jng a ⟨r.c, n, Jcz (r.l.take n), default⟩ (by omega) k.1 (by simp only; omega) (by simp only; rw [Jeb]; omega)
 rw [b] at f
 rw [decide_eq_true (by omega)] at g
 rw [JmL]; simp only [HDP, JvT] at i; obtain ⟨c, l⟩ := r
 simp only at *
 generalize Jfh a ⟨c, n, Jcz (l.take n), default⟩ = S at *; generalize Jcz (l.take n) = R at *
 have e : ((n : Int)).toNat = n := by omega
 have d : ((a.size : Int) != 32) = false := by simp; omega
 refine EV func94 ?_
 simp -implicitDefEqProofs (disch := omega) only [go_sem, d]
 refine Jaa f ?_
 refine SA ?_
 refine Jaa g ?_
 refine SA ?_
 refine Jaa j ?_
 refine SA ?_
 refine Jaa i ?_
 exact SB
theorem Jrk (a : ByteArray) (r : Rg) (n : Int) (k : r.l.length <= 9223372036854775807) (h : sigB a r n = false) : Ev prog 94 [Str a, RGP r, I n] (.tup [HDP default, I 180]) := by
 have f := JhA r k; have g := JfG n 0 r.l.length; unfold sigB at h; obtain ⟨c, l⟩ := r
 simp only at *
 have b : ((a.size : Int) != 32) = !decide (a.size = 32) := by rw [L0Y]; simp; omega
 generalize i : decide (a.size = 32) = d at *; generalize regB ⟨c, l⟩ = e at *; generalize decide (0 <= n /\ n <= l.length) = b3 at *
 have j : HDP default = .agg [I 0, I 0, .v (.string ByteArray.empty), .v (.string ByteArray.empty)] := rfl
 rw [j]
 refine EV func94 ?_
 cases d
 . simp -implicitDefEqProofs (disch := omega) only [go_sem, ntmps94, b, results94, Bool.not_false]
 simp -implicitDefEqProofs (disch := omega) only [go_sem, b, Bool.not_true]
 refine Jaa f ?_
 cases e
 . exact SB
 cases b3
 . refine SA ?_
   refine Jaa g ?_
   exact SB
 . cases h
abbrev ITP (x : It) : AV := .agg [I x.i, Str x.e, SLs x.p]
abbrev ITS (l : List It) : AV := .sl 3 (l.map ITP)
abbrev PTP (p : Pt) : AV := .agg [I p.h.c, I p.h.n, Str p.h.r, Str p.h.s, ITS p.l]
abbrev zP : AV := .agg [I 0, I 0, .v (.string ByteArray.empty), .v (.string ByteArray.empty), .v (.slice none 0 0)]
abbrev shV (o : Option Pt) : AV := match o with
 | some p => .tup [PTP p, I 0]
 | none => .tup [zP, I 180]
section
variable (p : Nat -> Bool) (l : List It)
@[go_sem] theorem JwK : AV.namesL p (l.map ITP) = false := Jak p l ITP λ _ => rfl
@[go_sem] theorem Jxn : Jbv 3 (l.map ITP) = true := Jaw 3 l ITP λ _ => ⟨rfl, rfl⟩
end
theorem Jri (a : ByteArray) (r : Rg) (n : Int) (l : List Int) : Jjs a r n l = if sigB a r n = true then (if ascN n.toNat none l = true then some ⟨JiU a r n.toNat, l.map λ i => Je4 r n.toNat i.toNat⟩ else none) else none := by
 unfold Jjs
 by_cases h : sigB a r n = true
 . rw [if_pos h]
   obtain ⟨c, d, e⟩ := JgH.1 h
   by_cases ha : ascN n.toNat none l = true
   . rw [if_pos ha, if_pos ⟨c, d, e, ha⟩]
   . rw [if_neg ha, if_neg (λ b => ha b.2.2.2)]
 . rw [if_neg h, if_neg (λ b => h (JgH.2 ⟨b.1, b.2.1, b.2.2.1⟩))]
def prvO (l : List Int) (i : Nat) : Option Int := if i = 0 then none else some (gd l (i - 1))
theorem Jph (n : Nat) (l : List Int) (i : Nat) (h : i < l.length) : ascN n (prvO l i) (l.drop i) = (decide ((0 <= gd l i /\ gd l i < n) /\ (0 < i -> gd l (i - 1) < gd l i)) && ascN n (prvO l (i + 1)) (l.drop (i + 1))) := by
 rw [JaD l i h, ascN]
 have b : prvO l (i + 1) = some (gd l i) := by unfold prvO; rw [if_neg (by omega), L15]
 rw [b]
 congr 1
 rw [decide_eq_decide]
 refine and_congr Iff.rfl ?_
 unfold prvO
 by_cases h0 : i = 0
 . subst h0; simp
 . rw [if_neg h0]
   exact ⟨λ a _ => a _ rfl, λ a q c => by cases c; exact a (by omega)⟩
def itV (r : Rg) (n : Nat) (l : List Int) (i : Nat) : List AV := (l.take i).map λ j => ITP (Je4 r n j.toNat)
theorem Jvd (r : Rg) (n : Nat) (l : List Int) (i : Nat) (h : i <= l.length) : (itV r n l i).length = i := by
 unfold itV; rw [L0c, L01]; omega
theorem Jqi (r : Rg) (n : Nat) (l : List Int) (p : Nat -> Bool) (i : Nat) : AV.namesL p (itV r n l i) = false := Jak p (l.take i) (λ j => ITP (Je4 r n j.toNat)) λ _ => rfl
theorem JsA (r : Rg) (n : Nat) (l : List Int) : itV r n l 0 = [] := rfl
theorem Jzn {T : Type} [Inhabited T] (l : List T) (i : Nat) (h : i < l.length) : l.take (i + 1) = l.take i ++ [gd l i] := by rw [L0B, JaE l i h]; rfl
theorem Jsz (r : Rg) (n : Nat) (l : List Int) (i : Nat) (h : i < l.length) : itV r n l (i + 1) = itV r n l i ++ [.agg [I (gd l i).toNat, Str (gd r.l (gd l i).toNat), SLs (Jcc (r.l.take n) (gd l i).toNat).reverse]] := by
 unfold itV; rw [Jzn l i h, L1c]; rfl
theorem Jvc (r : Rg) (n : Nat) (l : List Int) : itV r n l l.length = (l.map λ j => Je4 r n j.toNat).map ITP := by
 unfold itV; rw [L04, L19]; rfl
theorem JpQ {P : Program} {f : FuncId} {k : List AV} {e sz : Nat} {es : List AV} {x : Value} (h : Ev P f k (.tup [.new e sz es, .v x])) : Ev P f k (.tup [.sl sz es, .v x]) := by
 intro m r0 S
 obtain ⟨rfl, rfl⟩ := S
 obtain ⟨l, n⟩ := h m _ ⟨rfl, rfl⟩
 refine ⟨l, λ w O vs V T o => ?_⟩
 refine (n w O vs V T o).mono λ ex N W => ?_
 obtain ⟨y, rfl, Y, g, K, L, ys, G, rfl, d, Q⟩ := W
 refine ⟨_, rfl, Y, ?_⟩
 match ys, G, d with
 | [y1, y2], [o1, o2], d =>
  obtain ⟨Z, ⟨rfl, M⟩, _⟩ := d
  have H : JdC w.heap.size g [none, none] := ⟨λ b r => by simp at r, by simp⟩
  rcases Z with ⟨rfl, rfl, rfl⟩ | ⟨b, C, hz, rfl, rfl, F, I, J, p⟩
  . exact ⟨g, K, L, _, [none, none], rfl, ⟨⟨rfl, .slnil ..⟩, ⟨rfl, M⟩, trivial⟩, H⟩
  . obtain ⟨q, z, s, X, E⟩ := p
    have r := (Q.1 b (by simp)).1
    have D : b < N.heap.size := by
     obtain ⟨H, z, _⟩ := z
     exact (L0m.1 z).1
    refine ⟨λ a => g a \/ a = b, λ a o => .inl (K a o), λ a o => ?_, _, [none, none], rfl, ⟨⟨rfl, ?_⟩, ⟨rfl, ?_⟩, trivial⟩, ⟨λ b r => by simp at r, by simp⟩⟩
    . rcases o with o | rfl
      . exact L a o
      . exact .inr ⟨r, D⟩
    . have t : ∀ (i : Nat) (a : AV) (j : Nat) (c : AV), es[i]? = some a -> a.cells[j]? = some c -> ∃ v, q[i * sz + j]? = some v /\ v.oneCell' = true /\ IRep N (λ a => g a \/ a = b) c v := λ i a j c l n => by
       obtain ⟨v, u, A, B⟩ := E i a j c l n
       exact ⟨v, u, A, B.mono (λ _ h => .inl h) (λ _ _ => rfl)⟩
      refine .sl sz es b 0 C (λ i j => (q[i * sz + j]?).getD undef) (.inr rfl) F s (λ i j U hj => ?_) (λ i a j c l n => ?_)
      . obtain ⟨a, l⟩ : ∃ a, es[i]? = some a := ⟨_, L08 U⟩
        have R := s a (L02 l)
        obtain ⟨c, n⟩ : ∃ c, a.cells[j]? = some c := ⟨_, L08 (by omega)⟩
        obtain ⟨v, u, A, B⟩ := t i a j c l n
        rw [Jbs z, L0p, u]
        exact ⟨rfl, A⟩
      . obtain ⟨v, u, A, B⟩ := t i a j c l n
        simp only [u, Option.getD_some]; exact B
    . exact M.mono (λ _ h => .inl h) (λ _ _ => rfl)
 | [], _, d => exact d.elim
 | [_], [], d => exact d.elim
 | [_], [_], d => exact d.2.elim
 | [_], _ :: _ :: _, d => exact d.2.elim
 | _ :: _ :: _, [], d => exact d.elim
 | _ :: _ :: _, [_], d => exact d.2.elim
 | _ :: _ :: _ :: _, _ :: _ :: _, d => exact d.2.2.elim
 | [_, _], _ :: _ :: _ :: _, d => exact d.2.2.elim
theorem Jbc {T : Type} (g : T -> AV) (h : ∀ x, (g x).dn = false) : ∀ l : List T, AV.dnL (l.map g) = false
 | [] => by simp only [L0G, AV.dnL]
 | x :: l => by simp only [L0l, AV.dnL, h x, Jbc g h l, L14]
theorem JtT (l : List ByteArray) (n : Int) : (AV.tup [.sl 1 (l.map λ s => .v (.string s)), .v (.int .i64 n)]).dn = false := by
 simp only [AV.dn, AV.dnL, Jbc _ (λ x => AV.dn.eq_2 _) l, L14]
def shR (c : Int) (L : List ByteArray) (n : Nat) (R S : ByteArray) (l : List Int) (i : Nat) (P : List AV) (E : Env) (a : Jac) : Prop :=
 E 2 = I n /\ E 3 = SL l /\ E 5 = .ptr 113246288 2 0 0 /\ E 8 = .ptr 113246336 5 0 0 /\ E 12 = .ptr 113246400 5 0 0 /\ E 13 = I i /\
  a 113246288 = some ⟨144, 2, [.agg [I c, SLs L]]⟩ /\ a 113246336 = some ⟨38, 5, [zP]⟩ /\ a 113246400 = some ⟨38, 5, [.agg [I c, I n, Str R, Str S, .own 113246401 3 0 i]]⟩ /\ a 113246401 = some ⟨199, 3, P⟩
set_option maxHeartbeats 2000000 in
theorem Jtf (key : ByteArray) (r : Rg) (n : Int) (l : List Int) (hrl : r.l.length <= 9223372036854775807) (hl : l.length <= 9223372036854775807) (hR : ∀ x ∈ l, R64 x) : Ev prog 53 [Str key, RGP r, I n, SL l] (shV (Jjs key r n l)) := by
 rw [Jri]
 cases hs : sigB key r n with
 | false =>
  have c1 := Jrk key r n hrl hs
  have hd : HDP default = .agg [I 0, I 0, .v (.string ByteArray.empty), .v (.string ByteArray.empty)] := rfl
  rw [hd] at c1
  rw [if_neg (by decide)]
  refine EW [5, 12] func53 ?_
  refine SD ?_
  refine Jaa c1 ?_
  simp -implicitDefEqProofs (disch := omega) only [go_sem, results53]
 | true =>
 rw [if_pos rfl]
 obtain ⟨h1, h2, h3, h4⟩ := JgH.1 hs
 obtain ⟨m, rfl⟩ := Int.eq_ofNat_of_zero_le h3
 have hn : (m : Int).toNat = m := by omega
 rw [hn]; have c1 := Jtg key r m hs; have hr := Jea.1 h2
 have htl : (r.l.take m).length = m := by rw [L01]; omega
 have c2 := λ (J : Nat) (hJ : J < m) => JpQ (JeF m (r.l.take m) J (by omega) (by omega) (by omega) (JhZ h2 λ s hs => L0J hs))
 have c3 := λ (J : Int) => JfG J 0 (m - 1)
 have hst := Jph m l; have hvl := Jvd r m l; have hvn := Jqi r m l; have hv0 := JsA r m l; have hvs := Jsz r m l; have hva := Jvc r m l
 obtain ⟨z, hz⟩ : ∃ z, ascN m none l = z := ⟨_, rfl⟩
 rw [hz]
 have hz0 : z = ascN m (prvO l 0) (l.drop 0) := hz.symm
 have hfin : (if z = true then some (⟨JiU key r m, l.map λ i => Je4 r m i.toNat⟩ : Pt) else none) = if z = true then some (⟨⟨r.c, m, Jcz (r.l.take m), Jfh key ⟨r.c, m, Jcz (r.l.take m), default⟩⟩, l.map λ i => Je4 r m i.toNat⟩ : Pt) else none := rfl
 rw [hfin]; rw [JmL] at c1
 generalize hF : (l.map λ i => Je4 r m i.toNat) = F at *
 generalize Jfh key ⟨r.c, m, Jcz (r.l.take m), default⟩ = S at *; generalize Jcz (r.l.take m) = R at *; generalize itV r m l = V at *; obtain ⟨c, L⟩ := r
 simp only at *
 generalize Jcc (L.take m) = Q at *; clear hfin hF hz h2 h1 hs
 refine EW [5, 12] func53 ?_
 refine SD ?_
 refine Jaa c1 ?_
 refine SD ?_
 refine JbD 113246400 113246401 0 4 199 3 (k := ⟨38, 5, [.agg [I c, I m, Str R, Str S, .v (.slice none 0 0)]]⟩) (el := .agg [I c, I m, Str R, Str S, .v (.slice none 0 0)]) SC (by decide) rfl rfl (by simp) SC rfl ?_
 refine Jfd Plain.mono ?_
 refine SD ?_
 refine Jaf (λ k E σ => ∃ i : Nat, i + k = l.length /\ i <= m /\ (0 < i -> (i : Int) <= gd l (i - 1) + 1 /\ gd l (i - 1) < m) /\ z = ascN m (prvO l i) (l.drop i) /\ shR c L m R S l i (V i) E σ) l.length ⟨0, by omega, by omega, λ h => absurd h (by omega), hz0, ?_⟩ ?_
 . simp -implicitDefEqProofs (disch := omega) only [go_sem, shR, hv0, false_and]; try rfl
 rintro k E σ ⟨i, hk, him, hpr, hx, e2, e3, e5, e8, e12, e13, m5, m8, m12, mP⟩
 simp -implicitDefEqProofs (disch := omega) only [go_sem, e2, e3, e5, e8, e12, e13, m5, m8, m12, mP]
 refine Jab (λ hc => ?_) (λ hc => ?_)
 . have hi : i < l.length := by omega
   have hx1 := hst i hi; rw [hx1] at hx; have hxr := hR _ (Jaj l i hi); have hvi := hvs i hi
   have hvl1 := hvl i (by omega)
   simp -implicitDefEqProofs (disch := omega) only [go_sem, e2, e3, e5, e8, e12, e13, m5, m8, m12, mP]
   refine Jaa (c3 (gd l i)) ?_
   by_cases hb : 0 <= gd l i /\ gd l i < m
   rotate_left
   . rw [decide_eq_false (λ h => hb h.1), L06] at hx
     rw [decide_eq_false (by omega)]
     subst hx; simp -implicitDefEqProofs (disch := omega) only [go_sem, e2, e3, e5, e8, e12, e13, m5, m8, m12, mP, results53]
   rw [decide_eq_true (by omega)]
   obtain ⟨J, hJ⟩ := Int.eq_ofNat_of_zero_le hb.1
   have d1 := c2 J (by omega)
   rw [hJ] at hx hvi hb; rw [L1e] at hvi; simp -implicitDefEqProofs (disch := omega) only [go_sem, hJ, e2, e3, e5, e8, e12, e13, m5, m8, m12, mP, hJ]
   refine Jab (λ h2 => ?_) (λ h2 => ?_)
   . have hj : ((i : Int) - 1).toNat = i - 1 := by omega
     simp -implicitDefEqProofs (disch := omega) only [go_sem, hJ, e2, e3, e5, e8, e12, e13, m5, m8, m12, mP, hj, hJ]
     refine Jab (λ h5 => ?_) (λ h5 => ?_)
     . rw [decide_eq_false (λ h => by have := h.2 (by omega); omega), L06] at hx
       subst hx; simp -implicitDefEqProofs (disch := omega) only [go_sem, hJ, e2, e3, e5, e8, e12, e13, m5, m8, m12, mP, results53]
     . have hx : z = ascN m (prvO l (i + 1)) (l.drop (i + 1)) := by rw [hx, decide_eq_true (by rw [<- hJ]; constructor <;> omega), L0d]
       have hqt : (V i).take i = V i := L03 (by omega)
       have hql : (Q J).reverse.take (Q J).reverse.length = (Q J).reverse := L04
       simp -implicitDefEqProofs (disch := omega) only [go_sem, hJ, e2, e3, e5, e8, e12, e13, m5, m8, m12, mP, hn]
       refine Jaa d1 ?_ (h4 := .inr (JtT _ _))
       simp -implicitDefEqProofs (disch := omega) only [go_sem, hJ, e2, e3, e5, e8, e12, e13, m5, m8, m12, mP, hvl1, hqt, hvn, false_and]
       have hnx : 0 < i + 1 -> ((i + 1 : Nat) : Int) <= gd l (i + 1 - 1) + 1 /\ gd l (i + 1 - 1) < m := λ _ => by
        rw [L15, hJ]
        by_cases h0 : 0 < i
        . have := hpr h0; omega
        . omega
       have him2 : i + 1 <= m := by have := hnx (by omega); rw [L15, hJ] at this; omega
       have hdec : l.length - (i + 1) < k /\ i + 1 + (l.length - (i + 1)) = l.length := by omega
       refine Jad (l.length - (i + 1)) hdec.1 ⟨i + 1, hdec.2, him2, hnx, hx, ?_⟩
       have hvn1 := λ p => hvn p (i + 1)
       rw [hvi] at hvn1; rw [hvi]; simp -implicitDefEqProofs (disch := omega) only [go_sem, shR, e2, e3, e5, e8, e12, e13, m5, m8, m12, mP, hvl1, hqt, hvn, hvn1, false_and]; try rfl
   . have hx : z = ascN m (prvO l (i + 1)) (l.drop (i + 1)) := by rw [hx, decide_eq_true (by rw [<- hJ]; constructor <;> omega), L0d]
     have hqt : (V i).take i = V i := L03 (by omega)
     have hql : (Q J).reverse.take (Q J).reverse.length = (Q J).reverse := L04
     simp -implicitDefEqProofs (disch := omega) only [go_sem, hJ, e2, e3, e5, e8, e12, e13, m5, m8, m12, mP, hn]
     refine Jaa d1 ?_ (h4 := .inr (JtT _ _))
     simp -implicitDefEqProofs (disch := omega) only [go_sem, hJ, e2, e3, e5, e8, e12, e13, m5, m8, m12, mP, hvl1, hqt, hvn, false_and]
     have hnx : 0 < i + 1 -> ((i + 1 : Nat) : Int) <= gd l (i + 1 - 1) + 1 /\ gd l (i + 1 - 1) < m := λ _ => by
      rw [L15, hJ]
      by_cases h0 : 0 < i
      . have := hpr h0; omega
      . omega
     have him2 : i + 1 <= m := by have := hnx (by omega); rw [L15, hJ] at this; omega
     have hdec : l.length - (i + 1) < k /\ i + 1 + (l.length - (i + 1)) = l.length := by omega
     refine Jad (l.length - (i + 1)) hdec.1 ⟨i + 1, hdec.2, him2, hnx, hx, ?_⟩
     have hvn1 := λ p => hvn p (i + 1)
     rw [hvi] at hvn1; rw [hvi]; simp -implicitDefEqProofs (disch := omega) only [go_sem, shR, e2, e3, e5, e8, e12, e13, m5, m8, m12, mP, hvl1, hqt, hvn, hvn1, false_and]; try rfl
 . obtain rfl : i = l.length := by omega
   rw [L0H] at hx
   have hx : z = true := hx
   subst hx; rw [hva] at mP
   have hFl : F.length = l.length := by have := hvl l.length (L09 _); rw [hva, L0c] at this; exact this
   have hqt : F.take l.length = F := L03 (by omega)
   simp -implicitDefEqProofs (disch := omega) only [go_sem, e2, e3, e5, e8, e12, e13, m5, m8, m12, mP]
   refine Jap Plain.mono [113246400, 113246401] ?_
   simp -implicitDefEqProofs (disch := omega) only [go_sem, e2, e3, e5, e8, e12, e13, m5, m8, m12, mP, hqt, L0c, hFl]
def PtOK (p : Pt) : Prop := p.h.r.size <= 9223372036854775807 /\ p.l.length <= 9223372036854775807 /\ ∀ x ∈ p.l, x.e.size <= 9223372036854775807 /\ x.p.length <= 1000000
def prvI (l : List It) (i : Nat) : Option Int := if i = 0 then none else some (gd l (i - 1)).i
theorem Jkn (h : Hd) (l : List It) (i : Nat) (c : i < l.length) : itsB h (prvI l i) (l.drop i) = ((decide (i = 0 \/ (0 < i /\ (gd l (i - 1)).i < (gd l i).i)) && (decide ((gd l i).e.size <= 1000) && verB h.r h.n (gd l i).i (gd l i).e (gd l i).p)) && itsB h (prvI l (i + 1)) (l.drop (i + 1))) := by
 rw [JaD l i c, itsB, itB]
 have b : prvI l (i + 1) = some (gd l i).i := by unfold prvI; rw [if_neg (by omega), L15]
 rw [b]
 congr 2
 rw [decide_eq_decide]; unfold prvI
 by_cases h0 : i = 0
 . subst h0; simp
 . rw [if_neg h0]
   exact ⟨λ a => .inr ⟨by omega, a _ rfl⟩, λ a q d => by cases d; rcases a with a | a; exact absurd a h0; exact a.2⟩
set_option maxHeartbeats 2000000 in
theorem JeV (key : ByteArray) (p : Pt) (hp : PtOK p) : Ev prog 106 [Str key, PTP p] (B (Jbu key p)) := by
 have c1 := Jyf key p.h hp.1
 have hch : Jbu key p = (genB key p.h && itsB p.h none p.l) := rfl
 have hng : genB key p.h = true -> 0 <= p.h.n /\ p.h.n <= 60 := λ h => (JiT.1 h).2.2.1
 obtain ⟨z, hz⟩ : ∃ z, Jbu key p = z := ⟨_, rfl⟩
 rw [hz] at hch ⊢; generalize genB key p.h = g at *; have hst := Jkn p.h p.l
 have hz0 : itsB p.h none p.l = itsB p.h (prvI p.l 0) (p.l.drop 0) := rfl
 rw [hz0] at hch
 obtain ⟨⟨c, n, r, s⟩, l⟩ := p
 obtain ⟨hp1, hp2, hp3⟩ := hp
 simp only at *
 have c4 := λ (x : It) (hx : x ∈ l) (hn : n <= 60) (hs : x.e.size <= 1000) => Jzw r n x.i x.e x.p hn (by omega) (hp3 x hx).2
 refine EV func106 ?_
 refine SD ?_
 refine Jaa c1 ?_
 cases g with
 | false =>
  subst hch; simp -implicitDefEqProofs (disch := omega) only [go_sem, L06, results106]
 | true =>
 rw [L0d] at hch; have hn := hng rfl; clear hng hz0 c1 hz; refine SD ?_
 refine Jaf (λ k E σ => ∃ i : Nat, i + k = l.length /\ z = itsB ⟨c, n, r, s⟩ (prvI l i) (l.drop i) /\ E 3 = .ptr 224395312 5 0 0 /\ E 14 = ITS l /\ E 15 = I l.length /\ E 16 = I i /\ σ 224395312 = some ⟨38, 5, [.agg [I c, I n, Str r, Str s, ITS l]]⟩) l.length ⟨0, by omega, hch, ?_⟩ ?_
 . refine SD ?_; try rfl
 rintro k E σ ⟨i, hk, hx, e3, e14, e15, e16, m3⟩
 simp -implicitDefEqProofs (disch := omega) only [go_sem, e3, e14, e15, e16, m3]
 refine Jab (λ hc => ?_) (λ hc => ?_)
 . have hi : i < l.length := by omega
   rw [hst i hi] at hx; have d4 := c4 _ (Jaj l i hi) hn.2; have hpi := hp3 _ (Jaj l i hi)
   have hdec : l.length - (i + 1) < k /\ i + 1 + (l.length - (i + 1)) = l.length := by omega
   try simp only at hx
   generalize hX : gd l i = X at *; obtain ⟨xi, xe, xp⟩ := X
   try simp only at *
   generalize verB r n xi xe xp = v at *
   have h0b : ((i : Int) == 0) = decide (i = 0) := by rw [L0Y]; simp
   have hj : ((i : Int) - 1).toNat = i - 1 := by omega
   simp -implicitDefEqProofs (disch := omega) only [go_sem, e3, e14, e15, e16, m3, hX, h0b]
   refine Jab (λ h0 => ?_) (λ h0 => ?_)
   . rw [decide_eq_true (Or.inl h0), L0d] at hx; simp -implicitDefEqProofs (disch := omega) only [go_sem, e3, e14, e15, e16, m3, hX]
     refine Jab (λ h5 => ?_) (λ h5 => ?_)
     . rw [decide_eq_false (by omega), L06, L06] at hx
       subst hx; simp -implicitDefEqProofs (disch := omega) only [go_sem, e3, e14, e15, e16, m3, hX, results106]
     . rw [decide_eq_true (by omega), L0d] at hx
       simp -implicitDefEqProofs (disch := omega) only [go_sem, e3, e14, e15, e16, m3, hX]
       refine Jaa (d4 (by omega)) ?_
       cases v
       . rw [L06] at hx; subst hx; simp -implicitDefEqProofs (disch := omega) only [go_sem, e3, e14, e15, e16, m3, hX, results106]
       . rw [L0d] at hx; simp -implicitDefEqProofs (disch := omega) only [go_sem, e3, e14, e15, e16, m3, hX]
         refine Jad (l.length - (i + 1)) hdec.1 ⟨i + 1, hdec.2, hx, ?_⟩
         simp -implicitDefEqProofs (disch := omega) only [go_sem, e3, e14, e15, e16, m3, hX]; try rfl
   . simp -implicitDefEqProofs (disch := omega) only [go_sem, e3, e14, e15, e16, m3, hX, hj]
     refine Jab (λ h2 => ?_) (λ h2 => ?_)
     . rw [decide_eq_false (λ h => by rcases h with h | h; exact h0 h; exact h2 h.2), L06, L06] at hx
       subst hx; simp -implicitDefEqProofs (disch := omega) only [go_sem, e3, e14, e15, e16, m3, hX, results106]
     . rw [decide_eq_true (Or.inr ⟨by omega, by omega⟩), L0d] at hx
       simp -implicitDefEqProofs (disch := omega) only [go_sem, e3, e14, e15, e16, m3, hX]
       refine Jab (λ h5 => ?_) (λ h5 => ?_)
       . rw [decide_eq_false (by omega), L06, L06] at hx
         subst hx; simp -implicitDefEqProofs (disch := omega) only [go_sem, e3, e14, e15, e16, m3, hX, results106]
       . rw [decide_eq_true (by omega), L0d] at hx
         simp -implicitDefEqProofs (disch := omega) only [go_sem, e3, e14, e15, e16, m3, hX]
         refine Jaa (d4 (by omega)) ?_
         cases v
         . rw [L06] at hx; subst hx; simp -implicitDefEqProofs (disch := omega) only [go_sem, e3, e14, e15, e16, m3, hX, results106]
         . rw [L0d] at hx; simp -implicitDefEqProofs (disch := omega) only [go_sem, e3, e14, e15, e16, m3, hX]
           refine Jad (l.length - (i + 1)) hdec.1 ⟨i + 1, hdec.2, hx, ?_⟩
           refine SA ?_; try rfl
 . obtain rfl : i = l.length := by omega
   rw [L0H] at hx
   have hx : z = true := hx
   subst hx; exact SB
set_option maxHeartbeats 2000000 in
theorem JjT (key : ByteArray) (p : Pt) (hp : PtOK p) : Ev prog 97 [Str key, PTP p] (B (Jbu key p)) := by
 have c1 := JuW key p.h hp.1
 have hch : Jbu key p = (genB key p.h && itsB p.h none p.l) := rfl
 have hng : genB key p.h = true -> 0 <= p.h.n /\ p.h.n <= 60 := λ h => (JiT.1 h).2.2.1
 obtain ⟨z, hz⟩ : ∃ z, Jbu key p = z := ⟨_, rfl⟩
 rw [hz] at hch ⊢; generalize genB key p.h = g at *; have hst := Jkn p.h p.l
 have hz0 : itsB p.h none p.l = itsB p.h (prvI p.l 0) (p.l.drop 0) := rfl
 rw [hz0] at hch
 obtain ⟨⟨c, n, r, s⟩, l⟩ := p
 obtain ⟨hp1, hp2, hp3⟩ := hp
 simp only at *
 have c4 := λ (x : It) (hx : x ∈ l) (hn : n <= 60) (hs : x.e.size <= 1000) => Jv3 r n x.i x.e x.p hn (by omega) (by have := (hp3 x hx).2; omega)
 refine EV func97 ?_
 refine SD ?_
 refine Jaa c1 ?_
 cases g with
 | false =>
  subst hch; simp -implicitDefEqProofs (disch := omega) only [go_sem, L06, results97]
 | true =>
 rw [L0d] at hch; have hn := hng rfl; clear hng hz0 c1 hz; refine SD ?_
 refine Jaf (λ k E σ => ∃ i : Nat, i + k = l.length /\ z = itsB ⟨c, n, r, s⟩ (prvI l i) (l.drop i) /\ E 3 = .ptr 205520944 5 0 0 /\ E 5 = I i /\ σ 205520944 = some ⟨38, 5, [.agg [I c, I n, Str r, Str s, ITS l]]⟩) l.length ⟨0, by omega, hch, ?_⟩ ?_
 . refine SD ?_; try rfl
 rintro k E σ ⟨i, hk, hx, e3, e5, m3⟩
 simp -implicitDefEqProofs (disch := omega) only [go_sem, e3, e5, m3]
 refine Jab (λ hc => ?_) (λ hc => ?_)
 . have hi : i < l.length := by omega
   rw [hst i hi] at hx; have d4 := c4 _ (Jaj l i hi) hn.2; have hpi := hp3 _ (Jaj l i hi)
   have hdec : l.length - (i + 1) < k /\ i + 1 + (l.length - (i + 1)) = l.length := by omega
   try simp only at hx
   generalize hX : gd l i = X at *; obtain ⟨xi, xe, xp⟩ := X
   try simp only at *
   generalize verB r n xi xe xp = v at *
   have h0b : ((i : Int) == 0) = decide (i = 0) := by rw [L0Y]; simp
   have hj : ((i : Int) - 1).toNat = i - 1 := by omega
   simp -implicitDefEqProofs (disch := omega) only [go_sem, e3, e5, m3, hX]
   refine Jab (λ h5 => ?_) (λ h5 => ?_)
   . rw [decide_eq_false (p := xe.size <= 1000) (by omega), L06, L1E, L06] at hx
     subst hx; simp -implicitDefEqProofs (disch := omega) only [go_sem, e3, e5, m3, hX, results97]
   rw [decide_eq_true (p := xe.size <= 1000) (by omega), L0d] at hx
   simp -implicitDefEqProofs (disch := omega) only [go_sem, e3, e5, m3, hX]
   refine Jab (λ h0 => ?_) (λ h0 => ?_)
   . simp -implicitDefEqProofs (disch := omega) only [go_sem, e3, e5, m3, hX, hj]
     refine Jab (λ h2 => ?_) (λ h2 => ?_)
     . rw [decide_eq_false (by omega), L06, L06] at hx
       subst hx; simp -implicitDefEqProofs (disch := omega) only [go_sem, e3, e5, m3, hX, results97]
     . rw [decide_eq_true (by omega), L0d] at hx
       simp -implicitDefEqProofs (disch := omega) only [go_sem, e3, e5, m3, hX]
       refine Jaa (d4 (by omega)) ?_
       cases v
       . rw [L06] at hx; subst hx; simp -implicitDefEqProofs (disch := omega) only [go_sem, e3, e5, m3, hX, results97]
       . rw [L0d] at hx; simp -implicitDefEqProofs (disch := omega) only [go_sem, e3, e5, m3, hX]
         refine Jad (l.length - (i + 1)) hdec.1 ⟨i + 1, hdec.2, hx, ?_⟩
         simp -implicitDefEqProofs (disch := omega) only [go_sem, e3, e5, m3, hX]; try rfl
   . rw [decide_eq_true (by omega), L0d] at hx
     simp -implicitDefEqProofs (disch := omega) only [go_sem, e3, e5, m3, hX]
     refine Jaa (d4 (by omega)) ?_
     cases v
     . rw [L06] at hx; subst hx; simp -implicitDefEqProofs (disch := omega) only [go_sem, e3, e5, m3, hX, results97]
     . rw [L0d] at hx; simp -implicitDefEqProofs (disch := omega) only [go_sem, e3, e5, m3, hX]
       refine Jad (l.length - (i + 1)) hdec.1 ⟨i + 1, hdec.2, hx, ?_⟩
       refine SA ?_; try rfl
 . obtain rfl : i = l.length := by omega
   rw [L0H] at hx
   have hx : z = true := hx
   subst hx; exact SB
end Go.Proofs.YtlecbpkidomjbaaGreatDoor
namespace Go.Vai
open Go.RowKit
end Go.Vai
set_option maxRecDepth 100000
namespace Go.Proofs.YtlecbpkidomjbaaGreatDoor
open Go.Proofs.Tryz
open Go.Vai Go Go.Proofs
section
variable (p : Nat -> Bool) (l : List It)
end
@[go_sem] theorem JCv {b : Jac} {R : AV -> Prop} (es : List AV) : retK b R [.mp es] = R (.mp es) := by
 simp only [retK, JeY, Jav, AV.single, expo, Jfo (vs := [.mp es]) rfl, Jcu, eq_iff_iff, true_and]
 refine ⟨λ h => h.2, λ h => ⟨⟨List.nodup_nil, λ v a => ?_⟩, h⟩⟩
 rw [L0u] at a; subst a
 try trivial
@[go_sem] theorem Jvx (b : Option Nat) : ((Value.map b).oneCell' = true) = True := by cases b <;> simp [Value.oneCell']
section
variable (q : Nat -> Bool) (es : List AV)
@[go_sem] theorem ok_mp : AV.ok (.mp es) = true := rfl
@[go_sem] theorem cells_mp : AV.cells (.mp es) = [.mp es] := rfl
@[go_sem] theorem JBY : AV.kill q (.mp es) = .mp es := by
 unfold AV.kill
 split <;> rfl
end
theorem Jax (c n : Int) (a : R64 c) (e : 0 < n) : Ev prog 27 [I c, I n] (I (Jag c n)) := by
 obtain ⟨b, d⟩ := a
 refine EV func27 ?_
 refine SA ?_
 refine Jab (λ h => ?_) (λ h => ?_) <;> simp -implicitDefEqProofs (disch := omega) only [go_sem, results27]
 . rw [show (0 - (c+1)) = -(c+1) from by omega]; simp [Jag, h]
 . simp [Jag, h]
def keyF (c : Int) : ByteArray := strOfNums (List.replicate 32 (100 + c))
theorem Jqn (c : Int) : (keyF c).size = 32 := by unfold keyF; rw [strOfNums_size]; simp
def Jdz (b : Int) (v : Nat) : List Int := List.replicate v b ++ List.replicate (32 - v) 0
theorem Jj2 (b : Int) (v : Nat) (a : v < 32) : (Jdz b v).set v b = Jdz b (v + 1) := by
 unfold Jdz
 rw [L2s _ _ (by simp), L2o, L1v, show 32 - v = (32 - (v + 1)) + 1 from by omega, L2t, List.set_cons_zero, L2h]
 simp
theorem Jgb (b : Int) (v : Nat) (a : v <= 32) : (Jdz b v).length = 32 := by unfold Jdz; simp; omega
@[go_sem] theorem Jyr (n : Nat) : List.replicate n (Y 0) = (List.replicate n 0).map Y := by simp
theorem Jt1 (c : Int) (o : 0 <= c /\ c <= 100) : Ev prog 31 [I c] (Str (keyF c)) := by
 have j : IntKind.u8.wrap (100 + c) = 100 + c := by simp [IntKind.wrap, IntKind.bits, IntKind.signed]; omega
 have r : R64 (100 + c) := by constructor <;> omega
 refine EV func31 ?_
 unfold keyF; refine SA ?_
 refine Jaf (λ n E p => ∃ v : Nat, v + n = 32 /\ E 0 = I c /\ E 3 = .own 67108944 1 0 32 /\ E 4 = I v /\ p 67108944 = some ⟨5, 1, (Jdz (100 + c) v).map Y⟩) 32 ⟨0, by omega, ?_⟩ ?_
 . refine SA ?_
   exact ⟨rfl, rfl⟩
 . rintro n E p ⟨v, s, h, f, i, g⟩
   have a := Jgb (100 + c) v (by omega)
   refine SA ?_
   refine Jab (λ o => ?_) (λ o => ?_)
   . have d := Jj2 (100 + c) v (by omega)
     refine SA ?_
     refine Jad (n - 1) (by omega) ⟨v + 1, by omega, ?_⟩
     refine SA ?_
     simp
   . obtain rfl : v = 32 := by omega
     have k : Jdz (100 + c) 32 = List.replicate 32 (100 + c) := by simp [Jdz]
     rw [k] at g a; generalize q : List.replicate 32 (100 + c) = m at *
     have l : m.take 32 = m := L03 (by omega)
     refine SA ?_
     refine Jdu m (by simp -implicitDefEqProofs (disch := omega) only [go_sem, f, g, a, l]) (by intro b; simp -implicitDefEqProofs (disch := omega) only [go_sem, f]; intro e; cases e) (e := 5) rfl rfl rfl ?_
     exact SB
def posE (u : ByteArray) : List ByteArray -> Nat -> Option Nat
 | [], _ => none
 | e :: l, v => if e = u then some v else posE u l (v + 1)
def addM : List (ByteArray × AV) -> Nat -> List ByteArray -> List (ByteArray × AV)
 | M, _, [] => M
 | M, v, e :: l => addM (match JbL e M with | some _ => M | none => M ++ [(e, I v)]) (v + 1) l
theorem Jkk {e : ByteArray} : ∀ {M : List (ByteArray × AV)}, JbL e M = none -> idxS e M = none
 | [], _ => rfl
 | p :: r, h => by
  rw [JbL] at h
  split at h
  . cases h
  . rename_i a
    rw [idxS, if_neg a, Jkk h]; rfl
theorem Jna {e : ByteArray} {M : List (ByteArray × AV)} (x : AV) (h : JbL e M = none) : JlR M e x = M ++ [(e, x)] := by
 unfold JlR; rw [Jkk h]
theorem JmI (u e : ByteArray) (x : AV) : ∀ M : List (ByteArray × AV), JbL u (M ++ [(e, x)]) = match JbL u M with | some a => some a | none => if e = u then some x else none
 | [] => rfl
 | p :: r => by
  rw [L0L, JbL, JbL]
  by_cases h : p.1 = u
  . rw [if_pos h, if_pos h]
  . rw [if_neg h, if_neg h]; exact JmI u e x r
theorem Jp1 (u : ByteArray) : ∀ (L : List ByteArray) (v : Nat) (M : List (ByteArray × AV)), JbL u (addM M v L) = match JbL u M with | some a => some a | none => (posE u L v).map λ p => I p
 | [], v, M => by
  rw [addM]
  cases JbL u M <;> rfl
 | e :: l, v, M => by
  rw [addM, Jp1 u l (v + 1)]
  cases he : JbL e M with
  | some a =>
   simp only
   cases hu : JbL u M with
   | some b => rfl
   | none =>
    have c : e ≠ u := λ h => by rw [h, hu] at he; cases he
    simp only [posE, if_neg c]
  | none =>
   simp only [JmI]
   cases hu : JbL u M with
   | some b => rfl
   | none =>
    simp only [posE]
    by_cases h : e = u
    . simp [h]
    . simp [h]
theorem JqS (u : ByteArray) : ∀ (L : List ByteArray) (v p : Nat), posE u L v = some p -> v <= p
 | [], v, p, h => by cases h
 | e :: l, v, p, h => by
  rw [posE] at h
  split at h
  . cases h; exact L09 _
  . have := JqS u l (v + 1) p h; omega
def fstP (x y : Option Nat) : Int := match x, y with
 | none, none => 0
 | some _, none => 1
 | none, some _ => 2
 | some a, some b => if a < b then 1 else 2
theorem Jp0 {u w : ByteArray} (h : u ≠ w) : ∀ (L : List ByteArray) (v : Nat), fstF u w L = fstP (posE u L v) (posE w L v)
 | [], v => rfl
 | e :: l, v => by
  rw [fstF, posE, posE]
  by_cases h1 : e = u
  . rw [if_pos h1, if_pos h1, if_neg (λ a => h (h1.symm.trans a))]
    cases hp : posE w l (v + 1) with
    | none => rfl
    | some b =>
     have := JqS w l (v + 1) b hp
     show 1 = if v < b then (1 : Int) else 2
     rw [if_pos (by omega)]
  . rw [if_neg h1, if_neg h1]
    by_cases a : e = w
    . rw [if_pos a, if_pos a]
      cases hp : posE u l (v + 1) with
      | none => rfl
      | some b =>
       have := JqS u l (v + 1) b hp
       show 2 = if b < v then (1 : Int) else 2
       rw [if_neg (by omega)]
    . rw [if_neg a, if_neg a]; exact Jp0 h l (v + 1)
def evM (L : List ByteArray) : List (ByteArray × AV) := addM [] 0 L
theorem Jp2 (u : ByteArray) (L : List ByteArray) : JbL u (evM L) = (posE u L 0).map λ p => I p := Jp1 u L 0 []
theorem Jn0 (L : List ByteArray) (u w : ByteArray) : Jbz L u w = if u = w then 0 else fstP (posE u L 0) (posE w L 0) := by
 unfold Jbz
 by_cases h : u = w
 . rw [if_pos h, if_pos h]
 . rw [if_neg h, if_neg h, Jp0 h L 0]
def mI (N : List (ByteArray × Nat)) : List (ByteArray × AV) := N.map λ q => (q.1, I q.2)
theorem JlN (N : List (ByteArray × Nat)) (e : ByteArray) (v : Nat) : mI N ++ [(e, I v)] = mI (N ++ [(e, v)]) := by unfold mI; rw [L1c]; rfl
section
variable (p : Nat -> Bool) (N : List (ByteArray × Nat))
@[go_sem] theorem Jyz : AV.namesL p ((mI N).map entS) = false := by
 unfold mI; rw [L19]; exact Jak p N _ λ _ => rfl
end
theorem Jyq {e : ByteArray} {v : AV} {N : List (ByteArray × Nat)} (h : JbL e (mI N) = some v) : ∃ n : Nat, v = I n := by
 obtain ⟨q, _, a⟩ := L05.1 (Jkv h)
 cases a; exact ⟨q.2, rfl⟩
section
variable (p : Nat -> Bool) (es l : List AV) (σ : Jac)
@[go_sem] theorem Jzt : Jav (.mp es :: l) = Jav l := rfl
@[go_sem] theorem JBy : JbN σ p (.mp es) = True := by simp [JbN, AV.namesB]
@[go_sem] theorem JBA : expo σ p (.mp es) = .mp es := rfl
end
theorem JrF : prog.underlying 156 = some (.map 9 3) := by kernel_rfl
theorem Jty : prog.underlying 9 = some .string := by kernel_rfl
theorem tz_i : tz prog 3 = some (.int .i64 0) := by kernel_rfl
theorem JoZ : ∀ (L : List ByteArray) (v : Nat) (N : List (ByteArray × Nat)), ∃ b, addM (mI N) v L = mI b
 | [], v, N => ⟨N, rfl⟩
 | e :: l, v, N => by
  rw [addM]
  cases JbL e (mI N) with
  | some a => exact JoZ l (v + 1) N
  | none => simp only; rw [JlN]; exact JoZ l (v + 1) _
theorem Jj1 (L : List ByteArray) : ∃ N, evM L = mI N := JoZ L 0 []
set_option maxHeartbeats 1000000 in
theorem JvB (key : ByteArray) (p : Pt) (hp : PtOK p) : Ev prog 58 [Str key, PTP p] (.tup [.mp ((evM (evF key p)).map entS), B (Jbu key p)]) := by
 have c1 := JeV key p hp
 have he : evF key p = if Jbu key p = true then preF p else [] := rfl
 rw [he]; clear he
 obtain ⟨⟨c, n, r, s⟩, l⟩ := p
 obtain ⟨hp1, hp2, hp3⟩ := hp
 have hpre : preF ⟨⟨c, n, r, s⟩, l⟩ = preN 0 l := rfl
 rw [hpre]
 simp only at *
 generalize Jbu key ⟨⟨c, n, r, s⟩, l⟩ = g at *
 refine EW [3, 12] func58 ?_
 refine SD ?_
 refine Jog ?_
 refine SD ?_
 refine Jaa c1 ?_
 cases g with
 | false =>
  rw [if_neg (by decide)]
  refine SD ?_
  refine Jap Plain.mono [123732144] ?_
  refine SD ?_; try rfl
 | true =>
 rw [if_pos rfl]
 obtain ⟨FM, hFM⟩ : ∃ FM, evM (preN 0 l) = FM := ⟨_, rfl⟩
 rw [hFM]
 have hFM : FM = addM (mI []) 0 (preN 0 (l.drop 0)) := hFM.symm
 refine SD ?_
 refine Jaf (λ k E σ => ∃ (i : Nat) (N : List (ByteArray × Nat)), i + k = l.length /\ FM = addM (mI N) i (preN i (l.drop i)) /\ E 6 = .mref 123732144 /\ E 18 = ITS l /\ E 19 = I l.length /\ E 20 = I i /\ σ 123732144 = some ⟨156, 0, (mI N).map entS⟩) l.length ⟨0, [], by omega, hFM, ?_⟩ ?_
 . refine SD ?_
   exact ⟨rfl, rfl⟩
 rintro k E σ ⟨i, N, hk, hx, e6, e18, e19, e20, m6⟩
 simp -implicitDefEqProofs (disch := omega) only [go_sem, e6, e18, e19, e20, m6]
 have fin : ∀ (N : List (ByteArray × Nat)), FM = mI N -> True := λ _ _ => trivial
 refine Jab (λ hc => ?_) (λ hc => ?_)
 . have hi : i < l.length := by omega
   have hdec : l.length - (i + 1) < k /\ i + 1 + (l.length - (i + 1)) = l.length := by omega
   rw [JaD l i hi, preN] at hx; simp -implicitDefEqProofs (disch := omega) only [go_sem, e6, e18, e19, e20, m6]
   refine Jab (λ h1 => ?_) (λ h1 => ?_)
   . rw [if_neg (by omega)] at hx
     have hx : FM = mI N := hx
     subst hx; simp -implicitDefEqProofs (disch := omega) only [go_sem, e6, e18, e19, e20, m6]
     refine Jap Plain.mono [123732144] ?_
     simp -implicitDefEqProofs (disch := omega) only [go_sem, e6, e18, e19, e20, m6]
   . rw [if_pos (by omega), addM] at hx
     simp -implicitDefEqProofs (disch := omega) only [go_sem, e6, e18, e19, e20, m6]
     refine Joe (kt := 9) (et := 3) (id := 123732144) (e := 156) (l := mI N) (n := (gd l i).e) ?_ ?_ ?_ JrF Jty tz_i (λ v hv => ?_) (λ hv => ?_)
     . simp -implicitDefEqProofs (disch := omega) only [go_sem, e6, e18, e19, e20, m6]
     . simp -implicitDefEqProofs (disch := omega) only [go_sem, e6, e18, e19, e20, m6]
     . simp -implicitDefEqProofs (disch := omega) only [go_sem, e6, e18, e19, e20, m6]
     . rw [hv] at hx
       obtain ⟨v', rfl⟩ := Jyq hv
       simp only at hx
       simp -implicitDefEqProofs (disch := omega) only [go_sem, e6, e18, e19, e20, m6]
       refine Jad (l.length - (i + 1)) hdec.1 ⟨i + 1, N, hdec.2, hx, ?_⟩
       simp -implicitDefEqProofs (disch := omega) only [go_sem, e6, e18, e19, e20, m6]; try rfl
     . rw [hv] at hx
       simp only at hx
       rw [JlN] at hx; have hput := (Jna (I i) hv).trans (JlN ..); simp -implicitDefEqProofs (disch := omega) only [go_sem, e6, e18, e19, e20, m6]
       refine Ji6 (kt := 9) (et := 3) (id := 123732144) (e := 156) (l := mI N) (n := (gd l i).e) ?_ ?_ ?_ JrF Jty ?_
       . simp -implicitDefEqProofs (disch := omega) only [go_sem, e6, e18, e19, e20, m6]
       . simp -implicitDefEqProofs (disch := omega) only [go_sem, e6, e18, e19, e20, m6]
       . simp -implicitDefEqProofs (disch := omega) only [go_sem, e6, e18, e19, e20, m6]
       . simp -implicitDefEqProofs (disch := omega) only [go_sem, e6, e18, e19, e20, m6]; rw [hput]
         refine Jad (l.length - (i + 1)) hdec.1 ⟨i + 1, N ++ [((gd l i).e, i)], hdec.2, hx, ?_⟩
         simp -implicitDefEqProofs (disch := omega) only [go_sem, e6, e18, e19, e20, m6]; try rfl
 . obtain rfl : i = l.length := by omega
   rw [L0H] at hx
   have hx : FM = mI N := hx
   subst hx; simp -implicitDefEqProofs (disch := omega) only [go_sem, e6, e18, e19, e20, m6]
   refine Jap Plain.mono [123732144] ?_
   simp -implicitDefEqProofs (disch := omega) only [go_sem, e6, e18, e19, e20, m6]
theorem Jie {S : Sp} {b : Option Nat} {t q kt et : TypeId} {x y : Operand} {K : Env -> Jac -> Prop} {E : Env} {f : Jac} {l : List (ByteArray × AV)} {n : ByteArray} {o : Option Nat}
 (e : JbL n l = o.map λ p => I p) (j : ev E x = .mp (l.map entS)) (k : ev E y = .v (.string n)) (i : S.P.underlying t = some (.map kt et)) (g : S.P.underlying kt = some .string) (m : tz S.P et = some (.int .i64 0))
 (h : K (updO E b (.tup [I (o.getD 0 : Nat), B o.isSome])) f)
 (d : (b.all (decide <| · < S.N) && Op.low S.N (.lookup t x y true)) = true := by kernel_rfl) : semD S b (.lookup t x y true) q K E f := by
 refine Jod j k i g m (λ v c => ?_) (λ c => ?_) d
 . cases o with
   | none => rw [e] at c; cases c
   | some a =>
    rw [e] at c
    cases c
    exact h
 . cases o with
   | some a => rw [e] at c; cases c
   | none => exact h
theorem Jui : prog.underlying 156 = some (.map 9 3) := by kernel_rfl
theorem JmF (L : List ByteArray) (u w : ByteArray) : Ev prog 114 [.mp ((evM L).map entS), Str u, Str w] (I (Jbz L u w)) := by
 have e := Jp2 u L; have f := Jp2 w L; have c := Jn0 L u w; generalize Jbz L u w = z at *; generalize evM L = M at *; generalize posE u L 0 = x at *; generalize posE w L 0 = y at *
 have h : ((u.toList == w.toList)) = decide (u = w) := Jds u w
 refine EV func114 ?_
 refine SD ?_
 refine Jie (l := M) (n := u) (kt := 9) (et := 3) e ?_ ?_ Jui Jty tz_i ?_
 . exact SC
 . exact SC
 refine SD ?_
 refine Jie (l := M) (n := w) (kt := 9) (et := 3) f ?_ ?_ Jui Jty tz_i ?_
 . exact SC
 . exact SC
 simp -implicitDefEqProofs (disch := omega) only [go_sem, h]
 refine Jab (λ d => ?_) (λ d => ?_)
 . rw [if_pos d] at c; subst c; simp -implicitDefEqProofs (disch := omega) only [go_sem, results114]
 rw [if_neg d] at c
 cases x with
 | none => cases y with
  | none => subst c; simp -implicitDefEqProofs (disch := omega) only [go_sem, Option.isSome, Option.getD, results114]; try rfl
  | some b => subst c; simp -implicitDefEqProofs (disch := omega) only [go_sem, Option.isSome, Option.getD, results114]; try rfl
 | some a => cases y with
  | none => subst c; simp -implicitDefEqProofs (disch := omega) only [go_sem, Option.isSome, Option.getD, results114]; try rfl
  | some b =>
   simp -implicitDefEqProofs (disch := omega) only [go_sem, Option.isSome, Option.getD]
   refine Jab (λ g => ?_) (λ g => ?_)
   . have : fstP (some a) (some b) = 1 := if_pos (by omega)
     rw [this] at c; subst c; exact SB
   . have : fstP (some a) (some b) = 2 := if_neg (by omega)
     rw [this] at c; subst c; exact SB
set_option maxHeartbeats 1000000 in
theorem Jj8 (key : ByteArray) (p : Pt) (u w : ByteArray) (hp : PtOK p) : Ev prog 102 [Str key, PTP p, Str u, Str w] (I (Jbz (evF key p) u w)) := by
 have c1 := JjT key p hp
 have he : Jbz (evF key p) u w = if Jbu key p = true /\ u ≠ w then fstF u w (preN 0 p.l) else 0 := by
  unfold evF Jbz preF
  by_cases h : u = w
  . rw [if_pos h, if_neg (λ hh => hh.2 h)]
  . rw [if_neg h]
    by_cases hc : Jbu key p = true
    . rw [if_pos hc, if_pos ⟨hc, h⟩]
    . rw [if_neg hc, if_neg (λ hh => hc hh.1)]; rfl
 have hd : ∀ a b : ByteArray, (a.toList == b.toList) = decide (a = b) := Jds
 obtain ⟨z, hz⟩ : ∃ z, Jbz (evF key p) u w = z := ⟨_, rfl⟩
 rw [hz] at he ⊢
 obtain ⟨⟨c, n, r, s⟩, l⟩ := p
 obtain ⟨hp1, hp2, hp3⟩ := hp
 simp only at *
 generalize Jbu key ⟨⟨c, n, r, s⟩, l⟩ = g at *; clear hz
 refine EV func102 ?_
 refine SD ?_
 refine Jaa c1 ?_
 cases g with
 | false =>
  rw [if_neg (λ h => by cases h.1)] at he
  subst he; simp -implicitDefEqProofs (disch := omega) only [go_sem, results102]
 | true =>
 simp -implicitDefEqProofs (disch := omega) only [go_sem, hd]
 refine Jab (λ h1 => ?_) (λ h1 => ?_)
 . rw [if_neg (λ h => h.2 h1)] at he
   subst he; simp -implicitDefEqProofs (disch := omega) only [go_sem, results102]
 rw [if_pos ⟨rfl, h1⟩] at he; refine SD ?_
 refine Jaf (λ k E σ => ∃ i : Nat, i + k = l.length /\ z = fstF u w (preN i (l.drop i)) /\ E 2 = Str u /\ E 3 = Str w /\ E 5 = .ptr 216006736 5 0 0 /\ E 9 = I i /\ σ 216006736 = some ⟨38, 5, [.agg [I c, I n, Str r, Str s, ITS l]]⟩) l.length ⟨0, by omega, he, ?_⟩ ?_
 . refine SD ?_; try rfl
 rintro k E σ ⟨i, hk, hx, e2, e3, e5, e9, m5⟩
 simp -implicitDefEqProofs (disch := omega) only [go_sem, e2, e3, e5, e9, m5]
 refine Jab (λ hc => ?_) (λ hc => ?_)
 . have hi : i < l.length := by omega
   have hdec : l.length - (i + 1) < k /\ i + 1 + (l.length - (i + 1)) = l.length := by omega
   rw [JaD l i hi, preN] at hx; simp -implicitDefEqProofs (disch := omega) only [go_sem, e2, e3, e5, e9, m5]
   have hq : ((gd l i).i == (i : Int)) = decide ((gd l i).i = (i : Int)) := by rw [L0Y]; simp
   refine Jab (λ h2 => ?_) (λ h2 => ?_)
   . rw [if_pos (by omega), fstF] at hx
     simp -implicitDefEqProofs (disch := omega) only [go_sem, e2, e3, e5, e9, m5, hd]
     refine Jab (λ h3 => ?_) (λ h3 => ?_)
     . rw [if_pos h3] at hx; subst hx; simp -implicitDefEqProofs (disch := omega) only [go_sem, results102]
     . rw [if_neg h3] at hx; simp -implicitDefEqProofs (disch := omega) only [go_sem, e2, e3, e5, e9, m5, hd]
       refine Jab (λ h4 => ?_) (λ h4 => ?_)
       . rw [if_pos h4] at hx; subst hx; simp -implicitDefEqProofs (disch := omega) only [go_sem, results102]
       . rw [if_neg h4] at hx; simp -implicitDefEqProofs (disch := omega) only [go_sem, e2, e3, e5, e9, m5]
         refine Jad (l.length - (i + 1)) hdec.1 ⟨i + 1, hdec.2, hx, ?_⟩
         simp -implicitDefEqProofs (disch := omega) only [go_sem, e2, e3, e5, e9, m5]; try rfl
   . rw [if_neg (by omega)] at hx
     have hx : z = 0 := hx
     subst hx; simp -implicitDefEqProofs (disch := omega) only [go_sem, e2, e3, e5, e9, m5, results102]
 . obtain rfl : i = l.length := by omega
   rw [L0H] at hx
   have hx : z = 0 := hx
   subst hx; simp -implicitDefEqProofs (disch := omega) only [go_sem, e2, e3, e5, e9, m5, results102]
def bilW (o : Option Sn) (f : Int) (a b : Option Sn) : (Int × Int) × Int := match o with
 | some s => (Jfu s, 0)
 | none =>
  if f = 1 then (match a with | some s => (Jfu s, 1) | none => ((0, 0), 0))
  else if f = 2 then (match b with | some s => (Jfu s, 2) | none => ((0, 0), 0))
  else ((0, 0), 0)
theorem Jmr (L : List ByteArray) (a b : Ck) (l : Lg) : JhM L a b l = bilW (JeM a b l) (Jbz L (recF l 1) (recF l 2)) (JcF a l.g) (JcF b l.k) := rfl
abbrev biV (w : (Int × Int) × Int) : AV := .tup [WNP w.1, I w.2]
set_option maxHeartbeats 2000000 in
theorem Jpl (L : List ByteArray) (a b : Ck) (l : Lg) (hl : legF l = true) (ha : a.r.length <= 9223372036854775807) (hb : b.r.length <= 9223372036854775807) : Ev prog 73 [.mp ((evM L).map entS), CKP a, CKP b, LGP l] (biV (JhM L a b l)) := by
 have c1 := Jo1 a b l ha hb; have c2 := Jud l 1; have c3 := Jud l 2
 have r1 : recV l 1 = .tup [Str (recF l 1), I 0] := if_pos ⟨hl, by omega⟩
 have r2 : recV l 2 = .tup [Str (recF l 2), I 0] := if_pos ⟨hl, by omega⟩
 rw [r1] at c2; rw [r2] at c3; have c4 := JmF L (recF l 1) (recF l 2); have c5 := JgI a l.g ha; have c6 := JgI b l.k hb; have hf := Jj7 L (recF l 1) (recF l 2); rw [Jmr]
 obtain ⟨N, hN⟩ := Jj1 L
 rw [hN] at c4 ⊢; clear r1 r2; generalize JeM a b l = o at *; generalize Jbz L (recF l 1) (recF l 2) = f at *; generalize recF l 1 = R1 at *; generalize recF l 2 = R2 at *; generalize JcF a l.g = sa at *; generalize JcF b l.k = sb at *; obtain ⟨ad, ar⟩ := a; obtain ⟨bd, br⟩ := b; obtain ⟨lf, lt, lg, lk⟩ := l
 simp only at *
 refine EW [7, 9] func73 ?_
 refine SA ?_
 cases o with
 | some s =>
  refine Jaa c1 ?_
  refine SA ?_
  refine Jaa (Jll s) ?_
  refine SA ?_; try rfl
 | none =>
 refine Jaa c1 ?_
 refine SA ?_
 refine Jaa c2 ?_
 refine SA ?_
 refine Jaa c3 ?_
 refine SA ?_
 refine Jaa c4 ?_
 refine SA ?_
 refine JgD (λ D E σ => E 0 = .mp ((mI N).map entS) /\ E 5 = .ptr 155189328 2 0 0 /\ E 6 = .ptr 155189344 2 0 0 /\ E 7 = .ptr 155189360 6 0 0 /\ E 8 = .ptr 155189376 2 0 0 /\ E 16 = I f /\ σ 155189328 = some ⟨93, 2, [.agg [I ad, RDS ar]]⟩ /\ σ 155189344 = some ⟨93, 2, [.agg [I bd, RDS br]]⟩ /\ σ 155189360 = some ⟨62, 6, [.agg [I lf, I lt, I lg.b, I lg.e, I lk.b, I lk.e]]⟩ /\ σ 155189376 = some ⟨56, 2, [.agg [I 0, I 0]]⟩ /\ (D 5 = true -> D 3 = true) /\ (D 6 = true -> D 4 = true) /\ (D 3 = true -> D 5 = false -> σ 155189520 = some ⟨93, 2, [.agg [I 0, .v (.slice none 0 0)]]⟩) /\ (D 5 = true -> σ 155189520 = some ⟨93, 2, [.agg [I ad, RDS ar]]⟩) /\ (D 4 = true -> D 6 = false -> σ 155189536 = some ⟨60, 2, [.agg [I 0, I 0]]⟩) /\ (D 6 = true -> σ 155189536 = some ⟨60, 2, [.agg [I lg.b, I lg.e]]⟩) /\ (D 0 = true -> E 45 = .agg [I ad, RDS ar]) /\ (D 1 = true -> E 46 = .ptr 155189360 6 0 2) /\ (D 2 = true -> E 47 = .agg [I lg.b, I lg.e]) /\ (D 3 = true -> E 17 = .ptr 155189520 2 0 0) /\ (D 4 = true -> E 18 = .ptr 155189536 2 0 0)) ?_ ?_ ?_
 . refine SA ?_; try simp
 . simp only [JhH, depK, Region.binds, eq_self, forall_const, and_true]
   repeat' apply And.intro
   all_goals
    rintro D E σ ⟨e0, e5, e6, e7, e8, e16, m5, m6, m7, m8, c5_3, c6_4, m0_0, m0_1, m1_0, m1_1, j0, j1, j2, j3, j4⟩ hd
    have k := And.intro trivial <| And.intro (cK c5_3) <| And.intro (cK c6_4) trivial
    simp -implicitDefEqProofs (disch := first | assumption | (simp only [hd, k]; done) | omega) only [go_sem, e0, e5, e6, e7, e8, e16, m5, m6, m7, m8, m0_0, m0_1, m1_0, m1_1, j0, j1, j2, j3, j4, false_and, and_self]
    repeat' apply And.intro
    all_goals first | assumption | (intro _; assumption) | trivial | (simp -implicitDefEqProofs (contextual := true) (disch := first | assumption | omega) only [go_sem, m0_0, m0_1, m1_0, m1_1, j0, j1, j2, j3, j4, hd, c5_3, c6_4, k, implies_true, forall_const, false_implies, true_implies]; done) | (intro h; intros; exfalso; simp (maxDischargeDepth := 9) [hd, k] at h; done) | (intros; contradiction) | trace_state
 . rintro D E σ hD ⟨e0, e5, e6, e7, e8, e16, m5, m6, m7, m8, c5_3, c6_4, m0_0, m0_1, m1_0, m1_1, j0, j1, j2, j3, j4⟩
   have g0 := m0_1 (hD 5 (by decide))
   have g1 := m1_1 (hD 6 (by decide))
   have q0 := j0 (hD 0 (by decide))
   have q1 := j1 (hD 1 (by decide))
   have q2 := j2 (hD 2 (by decide))
   have q3 := j3 (hD 3 (by decide))
   have q4 := j4 (hD 4 (by decide))
   clear c5_3 c6_4 m0_0 m0_1 m1_0 m1_1 j0 j1 j2 j3 j4 hD
   have hfc : f = 0 \/ f = 1 \/ f = 2 := by omega
   rcases hfc with rfl | rfl | rfl
   . cases sa with
     | none =>
      refine SA ?_
      refine Jaa c5 ?_
      refine SA ?_; try rfl
     | some s =>
      refine SA ?_
      refine Jaa c5 ?_
      refine SA ?_; try rfl
   . cases sa with
     | none =>
      refine SA ?_
      refine Jaa c5 ?_
      refine SA ?_; try rfl
     | some s =>
      refine SA ?_
      refine Jaa c5 ?_
      refine SA ?_
      refine Jaa (Jll s) ?_
      refine SA ?_; try rfl
   . refine SA ?_
     refine JgD (λ D E σ => E 0 = .mp ((mI N).map entS) /\ E 5 = .ptr 155189328 2 0 0 /\ E 6 = .ptr 155189344 2 0 0 /\ E 7 = .ptr 155189360 6 0 0 /\ E 8 = .ptr 155189376 2 0 0 /\ E 16 = I 2 /\ σ 155189328 = some ⟨93, 2, [.agg [I ad, RDS ar]]⟩ /\ σ 155189344 = some ⟨93, 2, [.agg [I bd, RDS br]]⟩ /\ σ 155189360 = some ⟨62, 6, [.agg [I lf, I lt, I lg.b, I lg.e, I lk.b, I lk.e]]⟩ /\ σ 155189376 = some ⟨56, 2, [.agg [I 0, I 0]]⟩ /\ E 17 = .ptr 155189520 2 0 0 /\ E 18 = .ptr 155189536 2 0 0 /\ (D 3 = false -> σ 155189520 = some ⟨93, 2, [.agg [I ad, RDS ar]]⟩) /\ (D 3 = true -> σ 155189520 = some ⟨93, 2, [.agg [I bd, RDS br]]⟩) /\ (D 4 = false -> σ 155189536 = some ⟨60, 2, [.agg [I lg.b, I lg.e]]⟩) /\ (D 4 = true -> σ 155189536 = some ⟨60, 2, [.agg [I lk.b, I lk.e]]⟩) /\ (D 0 = true -> E 50 = .agg [I bd, RDS br]) /\ (D 1 = true -> E 51 = .ptr 155189360 6 0 4) /\ (D 2 = true -> E 52 = .agg [I lk.b, I lk.e])) ?_ ?_ ?_
     . simp -implicitDefEqProofs (disch := omega) only [go_sem, q3, q4, g0, g1, false_and, and_self]
       refine ⟨e0, e5, e6, e7, e8, e16, m5, m6, m7, m8, ?_⟩; simp
     . simp only [JhH, depK, Region.binds, eq_self, forall_const, and_true]
       repeat' apply And.intro
       all_goals
        rintro D E σ ⟨e0, e5, e6, e7, e8, e16, m5, m6, m7, m8, e17, e18, m0_0, m0_1, m1_0, m1_1, j0, j1, j2⟩ hd
        simp -implicitDefEqProofs (disch := first | assumption | (simp only [hd]; done) | omega) only [go_sem, e0, e5, e6, e7, e8, e16, m5, m6, m7, m8, e17, e18, m0_0, m0_1, m1_0, m1_1, j0, j1, j2, q3, q4, g0, g1, false_and, and_self]
        repeat' apply And.intro
        all_goals first | assumption | (intro _; assumption) | trivial | (simp -implicitDefEqProofs (contextual := true) (disch := first | assumption | omega) only [go_sem, m0_0, m0_1, m1_0, m1_1, j0, j1, j2, hd, implies_true, forall_const, false_implies, true_implies]; done) | (intros; contradiction) | trace_state
     . rintro D E σ hD ⟨e0, e5, e6, e7, e8, e16, m5, m6, m7, m8, e17, e18, m0_0, m0_1, m1_0, m1_1, j0, j1, j2⟩
       have g0 := m0_1 (hD 3 (by decide))
       have g1 := m1_1 (hD 4 (by decide))
       have q0 := j0 (hD 0 (by decide))
       have q1 := j1 (hD 1 (by decide))
       have q2 := j2 (hD 2 (by decide))
       clear m0_0 m0_1 m1_0 m1_1 j0 j1 j2 hD
       cases sb with
       | none =>
        refine SA ?_
        refine Jaa c6 ?_
        refine SA ?_; try rfl
       | some s =>
        refine SA ?_
        refine Jaa c6 ?_
        refine SA ?_
        refine Jaa (Jll s) ?_
        refine SA ?_; try rfl
abbrev bi3 (w : (Int × Int) × Int) : AV := .tup [WNP w.1, I w.2, I 0]
set_option maxHeartbeats 1000000 in
theorem Jnz (a b : Ck) (l : Lg) (key : ByteArray) (p : Pt) (hl : legF l = true) (hp : PtOK p) (ha : a.r.length <= 9223372036854775807) (hb : b.r.length <= 9223372036854775807) : Ev prog 55 [CKP a, CKP b, LGP l, Str key, PTP p] (bi3 (JhM (evF key p) a b l)) := by
 have c0 := Ji1 l; rw [hl] at c0; have c1 := Jo2 a b l ha hb; have c2 := Jl2 l 1; have c3 := Jl2 l 2
 have r1 : recV l 1 = .tup [Str (recF l 1), I 0] := if_pos ⟨hl, by omega⟩
 have r2 : recV l 2 = .tup [Str (recF l 2), I 0] := if_pos ⟨hl, by omega⟩
 rw [r1] at c2; rw [r2] at c3; have c4 := Jj8 key p (recF l 1) (recF l 2) hp; have c5 := JgJ a l.g ha; have c6 := JgJ b l.k hb; have hf := Jj7 (evF key p) (recF l 1) (recF l 2); rw [Jmr]; clear r1 r2; generalize JeM a b l = o at *; generalize Jbz (evF key p) (recF l 1) (recF l 2) = f at *; generalize recF l 1 = R1 at *; generalize recF l 2 = R2 at *; generalize JcF a l.g = sa at *; generalize JcF b l.k = sb at *; obtain ⟨ad, ar⟩ := a; obtain ⟨bd, br⟩ := b; obtain ⟨lf, lt, lg, lk⟩ := l
 simp only at *
 refine EV func55 ?_
 refine SA ?_
 refine Jaa c0 ?_
 refine SA ?_
 cases o with
 | some s =>
  refine Jaa c1 ?_
  refine SA ?_
  refine Jaa (JiL s) ?_
  refine SA ?_; try rfl
 | none =>
 refine Jaa c1 ?_
 refine SA ?_
 refine Jaa c2 ?_
 refine SA ?_
 refine Jaa c3 ?_
 refine SA ?_
 refine Jaa c4 ?_
 have hfc : f = 0 \/ f = 1 \/ f = 2 := by omega
 rcases hfc with rfl | rfl | rfl
 . refine SA ?_; try rfl
 . refine SA ?_
   cases sa with
   | none =>
    refine Jaa c5 ?_
    refine SA ?_; try rfl
   | some s =>
    refine Jaa c5 ?_
    refine SA ?_
    refine Jaa (JiL s) ?_
    refine SA ?_; try rfl
 . refine SA ?_
   cases sb with
   | none =>
    refine Jaa c6 ?_
    refine SA ?_; try rfl
   | some s =>
    refine Jaa c6 ?_
    refine SA ?_
    refine Jaa (JiL s) ?_
    refine SA ?_; try rfl
theorem JkC (l : List Int) (i : Nat) (k : l.length <= 9223372036854775807) (g : i <= 1000) : Ev prog 26 [SL l, I i] (I (numF l i)) := by
 have f : ((l.length : Int) == 0) = decide (l.length = 0) := by rw [L0Y]; simp
 refine EV func26 ?_
 refine SA ?_
 refine Jab (λ h => ?_) (λ h => ?_)
 . have a : l = [] := L0T (by omega)
   have b : numF l i = 0 := if_pos a
   rw [b]; exact SB
 . have a : l ≠ [] := λ e => h (by rw [e]; rfl)
   have b : numF l i = gd l (i % l.length) := if_neg a
   rw [b]
   have d : ((i : Int)).tmod l.length = ((i % l.length : Nat) : Int) := by rw [L0Z (by omega)]; omega
   have c : i % l.length < l.length := L1p _ (by omega)
   generalize i % l.length = j at *; exact SB
theorem JmQ : Ev prog 22 [] (Str (keyF 0)) := by
 have c := Jt1 0 (by omega)
 refine EV func22 ?_
 refine SA ?_
 refine Jaa c ?_
 exact SB
theorem JuL {P : Program} {f : FuncId} {a : List AV} {g c : List AV} (h : Ev P f a (.agg g)) (m : (AV.agg g).asIf (.agg c)) : Ev P f a (.agg c) := by
 intro b B n
 obtain ⟨rfl, rfl⟩ := n
 obtain ⟨j, k⟩ := h b _ ⟨rfl, rfl⟩
 refine ⟨j, λ w i x p o e => ?_⟩
 refine (k w i x p o e).mono λ z C q => ?_
 obtain ⟨y, rfl, s, d, t, u, A, ⟨rfl, r⟩, l⟩ := q
 exact ⟨_, rfl, s, d, t, u, none, ⟨rfl, m _ _ _ r⟩, l⟩
abbrev HPS (l : List (Int × Int)) : AV := .sl 2 (l.map λ h => .agg [I h.1, I h.2])
abbrev CRS (l : List Cr) : AV := .sl 4 (l.map CRP)
abbrev QP (q : Q4) : AV := .agg [I q.a, I q.b, I q.c, I q.d]
abbrev QL (x : List Q4) : AV := .sl 4 (x.map QP)
abbrev NMP (x : Nm) : AV := .agg [HPS x.hops, QTS x.legs, CRS x.crs, SL x.bases, QL x.rates, SL x.offs, SL x.wit]
theorem JtD : (AV.agg [I 0, I 0, .v (.slice none 0 0), .v (.slice none 0 0)]).asIf (CRP ⟨0, 0, [], []⟩) := by
 intro w i y h
 cases h with
 | agg _ g f e b =>
  refine .agg _ g f e λ j c y a d => ?_
  match j with
  | 0 => exact b 0 c y a d
  | 1 => exact b 1 c y a d
  | 2 =>
   have := b 2 _ y rfl d
   cases a
   cases this
   exact .slnil ..
  | 3 =>
   have := b 3 _ y rfl d
   cases a
   cases this
   exact .slnil ..
  | j + 4 => simp at a
section
variable (p : Nat -> Bool) (l : List Cr)
@[go_sem] theorem JwI : AV.namesL p (l.map CRP) = false := Jak p l CRP λ _ => rfl
@[go_sem] theorem Jxl : Jbv 4 (l.map CRP) = true := Jaw 4 l CRP λ _ => ⟨rfl, rfl⟩
end
theorem Jg2 (x : Nm) (c : Nat) (q : x.crs.length <= 9223372036854775807) (p : c <= 1000) : Ev prog 24 [NMP x, I c] (CRP (crsF x c)) := by
 have o : ((x.crs.length : Int) == 0) = decide (x.crs.length = 0) := by rw [L0Y]; simp
 by_cases hn : x.crs = []
 . have d : crsF x c = ⟨0, 0, [], []⟩ := if_pos hn
   rw [d]
   refine JuL ?_ JtD
   obtain ⟨g, i, a, k, l, m, n⟩ := x
   simp only at *
   subst hn
   refine EV func24 ?_
   simp -implicitDefEqProofs (disch := omega) only [go_sem, L0G, L0r]
   refine Jab (λ h => ?_) (λ h => absurd rfl h)
   exact SB
 . have d : crsF x c = gd x.crs (c % x.crs.length) := if_neg hn
   have b : 0 < x.crs.length := L1h.2 hn
   rw [d]; obtain ⟨g, i, a, k, l, m, n⟩ := x
   simp only at *
   have f : ((c : Int)).tmod a.length = ((c % a.length : Nat) : Int) := by rw [L0Z (by omega)]; omega
   have e : c % a.length < a.length := L1p _ b
   generalize c % a.length = j at *
   refine EV func24 ?_
   refine SA ?_
   refine Jab (λ h => absurd h (by omega)) (λ h => ?_)
   exact SB
theorem JrJ (v : Nat) (d : v <= 100) : Ev prog 28 [I v] (Str (updS v)) := by
 have a : IntKind.u8.wrap (65 + (v : Int)) = ((65 + v : Nat) : Int) := by simp [IntKind.wrap, IntKind.bits, IntKind.signed]; omega
 have c : strOfNums [((65 + v : Nat) : Int)] = ⟨#[UInt8.ofNat (65 + v)]⟩ := rfl
 refine EV func28 ?_
 refine SA ?_
 refine Jdu [((65 + v : Nat) : Int)] (by simp -implicitDefEqProofs (disch := omega) only [go_sem]; try rfl) (by intro b; refine SD ?_; intro e; cases e) (e := 5) rfl rfl rfl ?_
 rw [c]; simp -implicitDefEqProofs (disch := omega) only [go_sem, results28, L0V, L0e, L0r, L0p]; try rfl
def Q4ok (q : Q4) : Prop := R64 q.a /\ R64 q.b /\ R64 q.c /\ R64 q.d
section
variable (p : Nat -> Bool) (l : List Q4)
@[go_sem] theorem Jyv : AV.namesL p (l.map QP) = false := Jak p l QP λ _ => rfl
@[go_sem] theorem JzD : Jbv 4 (l.map QP) = true := Jaw 4 l QP λ _ => ⟨rfl, rfl⟩
end
set_option maxHeartbeats 1000000 in
theorem JrC (b : Int) (x : List Q4) (hb : R64 b) (hx : ∀ q ∈ x, Q4ok q) (hn : x.length <= 9223372036854775807) : Ev prog 25 [I b, QL x] (TF (tfQ b x)) := by
 have p0 := Jai (c := b) (n := 2000) (by omega)
 have e0 := Jax b 2000 hb (by omega)
 have hm : tfQ b x = ⟨(x.take 4).map JfY, Jag b 2000⟩ := rfl
 rw [hm]; clear hm
 obtain ⟨Z, hZ⟩ : ∃ Z, (x.take 4).map JfY = Z := ⟨_, rfl⟩
 rw [hZ]; generalize Jag b 2000 = pb at *
 refine EW [2, 7] func25 ?_
 refine SD ?_
 refine Jaa e0 ?_
 refine SD ?_
 refine JbD 54526032 54526033 0 0 141 4 (k := ⟨100, 2, [.agg [.v (.slice none 0 0), I pb]]⟩) (el := .agg [.v (.slice none 0 0), I pb]) SC (by decide) rfl rfl (by simp) SC rfl ?_
 refine Jfd Plain.mono ?_
 refine SD ?_
 refine Jaf (λ n E σ => ∃ i : Nat, i + n = 4 /\ i <= x.length /\ E 1 = QL x /\ E 4 = .ptr 54526016 2 0 0 /\ E 5 = .ptr 54526032 2 0 0 /\ E 6 = I i /\ σ 54526016 = some ⟨100, 2, [.agg [.v (.slice none 0 0), I 0]]⟩ /\ σ 54526032 = some ⟨100, 2, [.agg [.own 54526033 4 0 i, I pb]]⟩ /\ σ 54526033 = some ⟨141, 4, ((x.take i).map JfY).map TP⟩) 4 ⟨0, by omega, by omega, ?_⟩ ?_
 . refine SD ?_; try rfl
 rintro n E σ ⟨i, hi, hix, e1, e4, e5, e6, m4, m5, mr⟩
 have htl : ((x.take i).map JfY).length = i := by simp; omega
 have fin : i = 4 \/ i = x.length -> Z = (x.take i).map JfY := λ h => by
  rw [<- hZ]
  rcases h with rfl | rfl
  . rfl
  . rw [L04, L03 (by omega)]
 simp -implicitDefEqProofs (disch := omega) only [go_sem, e1, e4, e5, e6, m4, m5, mr, false_and, and_self]
 refine Jab (λ hc => ?_) (λ hc => ?_)
 . simp -implicitDefEqProofs (disch := omega) only [go_sem, e1, e4, e5, e6, m4, m5, mr, false_and, and_self]
   refine Jab (λ hc2 => ?_) (λ hc2 => ?_)
   . obtain ⟨q1, q2, q3, q4⟩ := hx _ (Jaj x i (by omega))
     have a1 := Jai (c := (gd x i).a) (n := 127) (by omega)
     have a2 := Jai (c := (gd x i).b) (n := 48) (by omega)
     have a5 := Jai (c := (gd x i).d) (n := 2000) (by omega)
     have a6 := Jai (c := (gd x i).c) (n := 86400 - 1800 * Jag (gd x i).b 48) (by omega)
     have c1 := Jax (gd x i).a 127 q1 (by omega)
     have c2 := Jax (gd x i).b 48 q2 (by omega)
     have c3 := Jax (gd x i).d 2000 q4 (by omega)
     have c4 := Jax (gd x i).c (86400 - 1800 * Jag (gd x i).b 48) q3 (by omega)
     have htk : (x.take (i + 1)).map JfY = (x.take i).map JfY ++ [JfY (gd x i)] := by rw [L0B, JaE x i (by omega)]; simp
     have hr : JfY (gd x i) = ⟨1 + Jag (gd x i).a 127, 1800 * Jag (gd x i).b 48, 1800 * Jag (gd x i).b 48 + 1 + Jag (gd x i).c (86400 - 1800 * Jag (gd x i).b 48), Jag (gd x i).d 2000⟩ := rfl
     generalize (x.take i).map JfY = q at *; generalize JfY (gd x i) = r at *; generalize Jag (gd x i).a 127 = u1 at *; generalize Jag (gd x i).b 48 = u2 at *; generalize Jag (gd x i).d 2000 = u5 at *; generalize Jag (gd x i).c (86400 - 1800 * u2) = u6 at *
     have hqt : q.take i = q := L03 (by omega)
     simp -implicitDefEqProofs (disch := omega) only [go_sem, e1, e4, e5, e6, m4, m5, mr, false_and, and_self]
     refine Jaa c2 ?_
     simp -implicitDefEqProofs (disch := omega) only [go_sem, e1, e4, e5, e6, m4, m5, mr, false_and, and_self]
     refine Jaa c1 ?_
     simp -implicitDefEqProofs (disch := omega) only [go_sem, e1, e4, e5, e6, m4, m5, mr, false_and, and_self]
     refine Jaa c4 ?_
     simp -implicitDefEqProofs (disch := omega) only [go_sem, e1, e4, e5, e6, m4, m5, mr, false_and, and_self]
     refine Jaa c3 ?_
     simp -implicitDefEqProofs (disch := omega) only [go_sem, e1, e4, e5, e6, m4, m5, mr, htl, hqt, false_and, and_self]
     refine Jad (4 - (i + 1)) (by omega) ⟨i + 1, by omega, by omega, ?_⟩
     rw [htk, hr]; simp -implicitDefEqProofs (disch := omega) only [go_sem, e1, e4, e5, e6, m4, m5, mr, htl, hqt, false_and, and_self]; try simp
   . have hf := fin (.inl (by omega))
     rw [<- hf] at mr htl
     have hqt : Z.take i = Z := L03 (by omega)
     simp -implicitDefEqProofs (disch := omega) only [go_sem, e1, e4, e5, e6, m4, m5, mr, false_and, and_self]
     refine Jap Plain.mono [54526032, 54526033] ?_
     simp -implicitDefEqProofs (disch := omega) only [go_sem, e1, e4, e5, e6, m4, m5, mr, hqt, L0c, htl]
 . have hf := fin (.inr (by omega))
   rw [<- hf] at mr htl
   have hqt : Z.take i = Z := L03 (by omega)
   simp -implicitDefEqProofs (disch := omega) only [go_sem, e1, e4, e5, e6, m4, m5, mr, false_and, and_self]
   refine Jap Plain.mono [54526032, 54526033] ?_
   simp -implicitDefEqProofs (disch := omega) only [go_sem, e1, e4, e5, e6, m4, m5, mr, hqt, L0c, htl]
end Go.Proofs.YtlecbpkidomjbaaGreatDoor

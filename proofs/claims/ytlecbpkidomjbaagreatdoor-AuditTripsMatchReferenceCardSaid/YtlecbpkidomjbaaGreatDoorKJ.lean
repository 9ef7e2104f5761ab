/- Audits: what is summed, sealed, accounted, checked -/
import Derived.Test.YtlecbpkidomjbaaGreatDoorKI
set_option linter.all false
set_option maxRecDepth 100000
namespace Go.Proofs.YtlecbpkidomjbaaGreatDoor.Au
open Go.Proofs.Tryz
open Go.Vai Go Go.Proofs Go.Proofs.YtlecbpkidomjbaaGreatDoor
def JaG (a : ByteArray) : ByteArray := shaF (⟨#[0]⟩ ++ a)
def JaW (a b : ByteArray) : ByteArray := shaF (⟨#[1]⟩ ++ (a ++ b))
theorem Ja4 (a : ByteArray) : (JaG a).size = 32 := Jc9 _
theorem Jbt (a b : ByteArray) : (JaW a b).size = 32 := Jc9 _
theorem JeA (a b : ByteArray) (f : a.size + b.size <= 99999999) : Ev prog 80 [Str a, Str b] (Str (JaW a b)) := JqG a b f
theorem JfL (a : ByteArray) (f : a.size <= 99999999) : Ev prog 81 [Str a] (Str (JaG a)) := Jqq a f
theorem Je9 (a b : ByteArray) (f : a.size + b.size <= 99999999) : Ev prog 157 [Str a, Str b] (Str (JaW a b)) := Jm2 a b f
theorem Je5 (a : ByteArray) (f : a.size <= 99999999) : Ev prog 156 [Str a] (Str (JaG a)) := JmT a f
def JoA (f : ByteArray) (h : Int) : ByteArray := JaW f (JaG (viS h))
theorem Jre (f : ByteArray) (h : Int) (j : f.size <= 10000) (g : 0 <= h) (i : h <= 1000000) : Ev prog 44 [Str f, I h] (Str (JoA f h)) := by
 refine EV func44 ?_
 have m := Jay h; have k := Ja4 (viS h); refine SD ?_
 refine Jaa (Jc2 h (by omega) (by omega)) ?_
 refine SA ?_
 refine Jaa (JfL (viS h) (by omega)) ?_
 refine SA ?_
 refine Jaa (JeA f (JaG (viS h)) (by omega)) ?_
 refine SA ?_
 rfl
structure Ch where
 h : Int
 p : Int
 q : Int
 a : Int
 t : ByteArray
deriving Inhabited
abbrev CH (c : Ch) : AV := .agg [I c.h, I c.p, I c.q, I c.a, Str c.t]
abbrev CL (l : List Ch) : AV := .sl 5 (l.map CH)
section
variable (p : Nat -> Bool) (l : List Ch)
@[go_sem] theorem Jyt : AV.namesL p (l.map CH) = false := Jak p l CH λ _ => rfl
@[go_sem] theorem Jz9 : AV.flatL (l.map CH) = true := JaP l CH λ _ => rfl
@[go_sem] theorem JzB : Jbv 5 (l.map CH) = true := Jaw 5 l CH λ _ => ⟨rfl, rfl⟩
@[go_sem] theorem JjK (c : Ch) : l.map CH ++ [.agg [I c.h, I c.p, I c.q, I c.a, Str c.t]] = (l ++ [c]).map CH := by simp
end
def ofF (l : List Ch) (h : Int) : List Ch := l.filter λ c => c.h = h
theorem JyM (l : List Ch) (h : Int) (A : l.length <= 1000) : Ev prog 43 [CL l, I h] (CL (ofF l h)) := by
 refine Jch (r := .new 84 5 ((ofF l h).map CH)) ?_ _
 refine EV func43 ?_
 refine SA ?_
 refine Jaf (λ n E y => ∃ v : Nat, v + n = l.length /\ E 1 = I h /\ E 5 = .own 92274768 5 0 (ofF (l.take v) h).length /\ E 8 = CL l /\ E 9 = I l.length /\ E 10 = I v /\ y 92274768 = some ⟨84, 5, (ofF (l.take v) h).map CH⟩) l.length ⟨0, by omega, ?_⟩ ?_
 . simp -implicitDefEqProofs (disch := omega) only [go_sem, ofF]
   simp
 . rintro n E y ⟨v, B, j, g, k, m, f, i⟩
   have x : (ofF (l.take v) h).length <= 1000 := by
    have := L1u (λ c : Ch => decide (c.h = h)) (l.take v)
    rw [L01] at this; unfold ofF; omega
   refine SA ?_
   refine Jab (λ z => ?_) (λ z => ?_)
   . have u : l.take (v + 1) = l.take v ++ [gd l v] := by rw [L0B, JaE l v (by omega)]; rfl
     refine SA ?_
     refine Jab (λ w => ?_) (λ w => ?_)
     . have o : ofF (l.take (v + 1)) h = ofF (l.take v) h ++ [gd l v] := by rw [u]; simp [ofF, w]
       simp -implicitDefEqProofs (disch := omega) only [go_sem, j, g, k, m, f, i, L04]
       refine Jad (n - 1) (by omega) ⟨v + 1, by omega, ?_⟩
       rw [o]; simp -implicitDefEqProofs (disch := omega) only [go_sem, j, g, k, m, f, i, L04]
       simp
     . have o : ofF (l.take (v + 1)) h = ofF (l.take v) h := by rw [u]; simp [ofF, w]
       refine SA ?_
       refine Jad (n - 1) (by omega) ⟨v + 1, by omega, ?_⟩
       rw [o]; refine SA ?_
       simp
   . have e : v = l.length := by omega
     subst e; rw [L04] at g i x; simp -implicitDefEqProofs (disch := omega) only [go_sem, j, g, k, m, f, i, L04, results43]
theorem JqW (s : ByteArray) (h : s.size <= 65536) : Ev prog 84 [Str s] (.tup [Str (viS s.size ++ s), I 0]) := by
 refine EV func84 ?_
 refine SA ?_
 refine Jab (λ f => absurd f (by omega)) (λ f => ?_)
 refine SA ?_
 refine Jaa (Jc2 (s.size : Int) (by omega) (by omega)) ?_
 have g := Jay (s.size : Int)
 exact SB
abbrev bPC (u : Bool) : AV := if u then .ptr 184549424 2 0 0 else .v (.pointer none)
@[go_sem] theorem bPC_f : bPC false = .v (.pointer none) := rfl
@[go_sem] theorem bPC_t : bPC true = .ptr 184549424 2 0 0 := rfl
abbrev bLC (u : Bool) (l : List Int) : List (Nat × Blk) := [(184549424, ⟨184, 2, [.agg [bPC u, .own 184549425 1 0 l.length]]⟩), (184549425, ⟨5, 1, l.map Y⟩)]
set_option maxHeartbeats 1000000 in
theorem Jpy (u : Bool) (l : List Int) : LOK prog 124 (inI [184549424, 184549425]) [.ptr 184549424 2 0 0] (stO (bLC u l)) (.tup []) (stO (bLC true l)) := by
 refine Jbp [] [184549424, 184549425] func124 rfl (by kernel_rfl) mo (nb rfl) rfl (by kernel_rfl) (by kernel_rfl) ?_
 cases u with
 | false =>
  refine SA ?_
  refine Jcd (te := 182) true (.inl ⟨SC, rfl⟩) rfl true (.inl ⟨rfl, rfl⟩) ?_
  refine SA ?_
  refine Jdv (te := 182) (k := ⟨184, 2, [.agg [.v (.pointer none), .own 184549425 1 0 l.length]]⟩) (id := 184549424) (sz := 2) (j := 0) SC SC rfl (by decide) (by show 0 < 1 * 2; omega) rfl rfl rfl (by decide) ?_
  refine SA ?_
  refine Jan rfl ?_
  refine Jdl (.ptr 184549424 2 0 0) SC func154 rfl rfl rfl rfl ?_
  refine SA ?_
  refine Jdm (te := 182) (k := ⟨184, 2, [.agg [.v (.pointer none), .own 184549425 1 0 l.length]]⟩) (id := 184549424) (sz := 2) (j := 0) SC SC rfl (by decide) (by simp) rfl rfl rfl (show prog.cellsOf 184 ≠ 0 /\ prog.cellsOf 184 <= 2 from by decide +kernel) (by kernel_rfl) ?_
  exact SB
 | true =>
  refine SA ?_
  refine Jcd (te := 182) false (.inr (.inl ⟨⟨184549424, 2, 0, 0, SC⟩, rfl⟩)) rfl false (.inl ⟨rfl, rfl⟩) ?_
  refine SA ?_
  refine Jd8 (te := 182) (id := 184549424) (sz := 2) (i := 0) (j := 0) SC SC rfl rfl false (.inr ⟨rfl, rfl⟩) ?_
  exact SB
set_option maxHeartbeats 1000000 in
theorem Jk8 (u : Bool) (l : List Int) (s : ByteArray) (i : l.length + s.size <= 100000000) : LOK prog 85 (inI [184549424]) [.ptr 184549424 2 0 0, Str s] (stO (bLC u l)) (.tup [I s.size, .v .nilIface]) (stO (bLC true (l ++ bI s))) := by
 refine Jbp [] [184549424] func85 rfl (by kernel_rfl) mo (nb rfl) rfl (by kernel_rfl) (by kernel_rfl) ?_
 have f := Jar s; refine SA ?_
 refine Jan rfl ?_
 have g : LOK prog 124 (inI [184549424, 184549425]) ([.ptr 184549424 2 0 0] ++ []) (stO (bLC u l)) (.tup []) (stO (bLC true l)) := Jpy u l
 refine JaY [184549424, 184549425] g ?_ ?_ ?_ ?_ ?_ ?_ ?_ (hsp := λ id h _ => L0A.2 h)
 . exact SC
 . exact SC
 . exact SC
 . exact SC
 . cases u <;> simp -implicitDefEqProofs (disch := omega) only [go_sem]
 . exact SC
 . simp -implicitDefEqProofs (disch := omega) only [go_sem, L0b, f, results85, L04, and_self]
theorem JoH (u : Bool) (s : ByteArray) (i : s.size ≠ 0) (j : s.size <= 100000000) : LOK prog 86 (inI [184549424]) [.ptr 184549424 2 0 0] (stO (bLC u (bI s))) (Str s) (stO [(184549424, ⟨184, 2, [.agg [bPC u, .any]]⟩), (184549425, ⟨5, 1, []⟩)]) := by
 refine Jbp [] [184549424] func86 rfl (by kernel_rfl) mo (nb rfl) rfl (by kernel_rfl) (by kernel_rfl) ?_
 have f := Jar s
 obtain ⟨m, g⟩ : ∃ m, s.size = m + 1 := ⟨s.size - 1, by omega⟩
 refine SA ?_
 refine JcQ (e := 5) (id := 184549425) s (by simp -implicitDefEqProofs (disch := omega) only [go_sem, f, g]) (by simp -implicitDefEqProofs (disch := omega) only [go_sem, f, g]) (by simp -implicitDefEqProofs (disch := omega) only [go_sem, f, g]) (by omega) rfl (by decide +kernel) SC (by omega) ?_
 cases u <;> simp -implicitDefEqProofs (disch := omega) only [go_sem, results86]
abbrev bPL (u : Bool) : AV := if u then .ptr 100663376 2 0 0 else .v (.pointer none)
@[go_sem] theorem bPL_f : bPL false = .v (.pointer none) := rfl
@[go_sem] theorem bPL_t : bPL true = .ptr 100663376 2 0 0 := rfl
abbrev bLL (u : Bool) (l : List Int) : List (Nat × Blk) := [(100663376, ⟨184, 2, [.agg [bPL u, .own 100663377 1 0 l.length]]⟩), (100663377, ⟨5, 1, l.map Y⟩)]
set_option maxHeartbeats 1000000 in
theorem Jpz (u : Bool) (l : List Int) : LOK prog 124 (inI [100663376, 100663377]) [.ptr 100663376 2 0 0] (stO (bLL u l)) (.tup []) (stO (bLL true l)) := by
 refine Jbp [] [100663376, 100663377] func124 rfl (by kernel_rfl) mo (nb rfl) rfl (by kernel_rfl) (by kernel_rfl) ?_
 cases u with
 | false =>
  refine SA ?_
  refine Jcd (te := 182) true (.inl ⟨SC, rfl⟩) rfl true (.inl ⟨rfl, rfl⟩) ?_
  refine SA ?_
  refine Jdv (te := 182) (k := ⟨184, 2, [.agg [.v (.pointer none), .own 100663377 1 0 l.length]]⟩) (id := 100663376) (sz := 2) (j := 0) SC SC rfl (by decide) (by show 0 < 1 * 2; omega) rfl rfl rfl (by decide) ?_
  refine SA ?_
  refine Jan rfl ?_
  refine Jdl (.ptr 100663376 2 0 0) SC func154 rfl rfl rfl rfl ?_
  refine SA ?_
  refine Jdm (te := 182) (k := ⟨184, 2, [.agg [.v (.pointer none), .own 100663377 1 0 l.length]]⟩) (id := 100663376) (sz := 2) (j := 0) SC SC rfl (by decide) (by simp) rfl rfl rfl (show prog.cellsOf 184 ≠ 0 /\ prog.cellsOf 184 <= 2 from by decide +kernel) (by kernel_rfl) ?_
  exact SB
 | true =>
  refine SA ?_
  refine Jcd (te := 182) false (.inr (.inl ⟨⟨100663376, 2, 0, 0, SC⟩, rfl⟩)) rfl false (.inl ⟨rfl, rfl⟩) ?_
  refine SA ?_
  refine Jd8 (te := 182) (id := 100663376) (sz := 2) (i := 0) (j := 0) SC SC rfl rfl false (.inr ⟨rfl, rfl⟩) ?_
  exact SB
set_option maxHeartbeats 1000000 in
theorem Jk9 (u : Bool) (l : List Int) (s : ByteArray) (i : l.length + s.size <= 100000000) : LOK prog 85 (inI [100663376]) [.ptr 100663376 2 0 0, Str s] (stO (bLL u l)) (.tup [I s.size, .v .nilIface]) (stO (bLL true (l ++ bI s))) := by
 refine Jbp [] [100663376] func85 rfl (by kernel_rfl) mo (nb rfl) rfl (by kernel_rfl) (by kernel_rfl) ?_
 have f := Jar s; refine SA ?_
 refine Jan rfl ?_
 have g : LOK prog 124 (inI [100663376, 100663377]) ([.ptr 100663376 2 0 0] ++ []) (stO (bLL u l)) (.tup []) (stO (bLL true l)) := Jpz u l
 refine JaY [100663376, 100663377] g ?_ ?_ ?_ ?_ ?_ ?_ ?_ (hsp := λ id h _ => L0A.2 h)
 . exact SC
 . exact SC
 . exact SC
 . exact SC
 . cases u <;> simp -implicitDefEqProofs (disch := omega) only [go_sem]
 . exact SC
 . simp -implicitDefEqProofs (disch := omega) only [go_sem, L0b, f, results85, L04, and_self]
theorem JoI (u : Bool) (s : ByteArray) (i : s.size ≠ 0) (j : s.size <= 100000000) : LOK prog 86 (inI [100663376]) [.ptr 100663376 2 0 0] (stO (bLL u (bI s))) (Str s) (stO [(100663376, ⟨184, 2, [.agg [bPL u, .any]]⟩), (100663377, ⟨5, 1, []⟩)]) := by
 refine Jbp [] [100663376] func86 rfl (by kernel_rfl) mo (nb rfl) rfl (by kernel_rfl) (by kernel_rfl) ?_
 have f := Jar s
 obtain ⟨m, g⟩ : ∃ m, s.size = m + 1 := ⟨s.size - 1, by omega⟩
 refine SA ?_
 refine JcQ (e := 5) (id := 100663377) s (by simp -implicitDefEqProofs (disch := omega) only [go_sem, f, g]) (by simp -implicitDefEqProofs (disch := omega) only [go_sem, f, g]) (by simp -implicitDefEqProofs (disch := omega) only [go_sem, f, g]) (by omega) rfl (by decide +kernel) SC (by omega) ?_
 cases u <;> simp -implicitDefEqProofs (disch := omega) only [go_sem, results86]
def Ch.ok (c : Ch) : Prop := 0 <= c.p /\ c.p <= 7 /\ 0 <= c.q /\ c.q <= 7 /\ 0 <= c.a /\ c.a <= 1000000000 /\ 0 <= c.h /\ c.h <= 63 /\ c.t.size <= 100
def payS (s : List Int) (c : Ch) : List Int := s.set c.p.toNat (gd s c.p.toNat - c.a)
def Jgu (s : List Int) (c : Ch) : List Int := (payS s c).set c.q.toNat (gd (payS s c) c.q.toNat + c.a)
def JaO (l : List Ch) : List Int := l.foldl Jgu (List.replicate 8 0)
theorem Jhu (s : List Int) (c : Ch) : (payS s c).length = s.length := by simp [payS]
theorem JdU (s : List Int) (c : Ch) : (Jgu s c).length = s.length := by simp [Jgu, payS]
theorem JiC (l : List Ch) (c : Ch) : JaO (l ++ [c]) = Jgu (JaO l) c := by simp [JaO, List.foldl_append]
theorem Jkg {s : List Int} {i : Nat} {x B : Int} (h : ∀ j, -B <= gd s j /\ gd s j <= B) (g : -B <= x /\ x <= B) (j : Nat) : -B <= gd (s.set i x) j /\ gd (s.set i x) j <= B := by
 have f := h j
 by_cases hij : i = j
 . subst hij
   by_cases hl : i < s.length
   . rw [Jha _ _ _ _ hl, if_pos rfl]; exact g
   . rw [List.set_eq_of_length_le (by omega)]; exact f
 . have : gd (s.set i x) j = gd s j := by unfold gd; rw [L0X, L0X, List.getElem?_set_ne hij]
   rw [this]; exact f
theorem Jnj {s : List Int} {c : Ch} {B : Int} (h : ∀ j, -B <= gd s j /\ gd s j <= B) (f : c.ok) : ∀ j, -(B + 1000000000) <= gd (payS s c) j /\ gd (payS s c) j <= B + 1000000000 := by
 obtain ⟨_, _, _, _, g, i, _⟩ := f
 intro j
 refine Jkg (λ j => ?_) ?_ j
 . have := h j; omega
 . have := h c.p.toNat; omega
theorem Jrv {s : List Int} {c : Ch} {B : Int} (h : ∀ j, -B <= gd s j /\ gd s j <= B) (g : c.ok) : ∀ j, -(B + 2000000000) <= gd (Jgu s c) j /\ gd (Jgu s c) j <= B + 2000000000 := by
 have f := Jnj h g; obtain ⟨_, _, _, _, i, k, _⟩ := g
 intro j
 refine Jkg (λ j => ?_) ?_ j
 . have := f j; omega
 . have := f c.q.toNat; omega
theorem Jcm (l : List Ch) (g : ∀ c ∈ l, c.ok) : ∀ v, v <= l.length -> (JaO (l.take v)).length = 8 /\ ∀ j, -(2000000000 * (v : Int)) <= gd (JaO (l.take v)) j /\ gd (JaO (l.take v)) j <= 2000000000 * (v : Int)
 | 0, _ => ⟨rfl, λ j => by
  have : gd (JaO (l.take 0)) j = 0 := by
   rcases j with _ | _ | _ | _ | _ | _ | _ | _ | j <;> rfl
  rw [this]; simp⟩
 | v + 1, k => by
  have i := Jcm l g v (by omega)
  have f : l.take (v + 1) = l.take v ++ [gd l v] := by rw [L0B, JaE l v (by omega)]; rfl
  rw [f, JiC]
  refine ⟨by rw [JdU]; exact i.1, λ j => ?_⟩
  have := Jrv i.2 (g _ (Jaj l v (by omega))) j
  push_cast
  omega
set_option maxHeartbeats 1000000 in
theorem JrA (l : List Ch) (G : ∀ c ∈ l, c.ok) (N : l.length <= 1000) : Ev prog 40 [CL l] (.agg ((JaO l).map I)) := by
 refine EV func40 ?_
 refine SA ?_
 refine Jaf (λ n E F => ∃ v : Nat, v + n = l.length /\ E 2 = .ptr 85983264 8 0 0 /\ E 3 = .ptr 85983280 8 0 0 /\ E 6 = CL l /\ E 7 = I l.length /\ E 8 = I v /\ F 85983264 = some ⟨122, 8, [.agg ((List.replicate 8 0).map I)]⟩ /\ F 85983280 = some ⟨122, 8, [.agg ((JaO (l.take v)).map I)]⟩) l.length ⟨0, by omega, ?_⟩ ?_
 . refine SA ?_
   exact ⟨rfl, rfl, rfl⟩
 . rintro n E F ⟨v, O, w, x, y, z, A, B, u⟩
   obtain ⟨g, j⟩ := Jcm l G v (by omega)
   refine SA ?_
   refine Jab (λ K => ?_) (λ K => ?_)
   . have k := G _ (Jaj l v (by omega))
     have f := Jnj j k; obtain ⟨P, Q, R, S, L, M, _⟩ := k
     have D : l.take (v + 1) = l.take v ++ [gd l v] := by rw [L0B, JaE l v (by omega)]; rfl
     have C : JaO (l.take (v + 1)) = Jgu (JaO (l.take v)) (gd l v) := by rw [D, JiC]
     generalize JaO (l.take v) = q at *; have H := j (gd l v).p.toNat; have J := f (gd l v).q.toNat
     have m : (payS q (gd l v)).length = 8 := by rw [Jhu]; exact g
     have f : q.set (gd l v).p.toNat (gd q (gd l v).p.toNat - (gd l v).a) = payS q (gd l v) := rfl
     have i : (payS q (gd l v)).set (gd l v).q.toNat (gd (payS q (gd l v)) (gd l v).q.toNat + (gd l v).a) = Jgu q (gd l v) := rfl
     refine SA ?_
     refine Jad (n - 1) (by omega) ⟨v + 1, by omega, ?_⟩
     rw [C]; refine SA ?_
     simp
   . have e : v = l.length := by omega
     subst e; rw [L04] at u g j
     have o : (List.replicate 8 (0 : Int)).length = 8 := rfl
     exact SB
def Jb0 (l : List Int) : List Int := l.flatMap λ n => bI (viS n)
theorem Jol (l : List Int) (n : Int) : Jb0 (l ++ [n]) = Jb0 l ++ bI (viS n) := by simp [Jb0]
theorem JdP (l : List Int) : (Jb0 l).length <= 10 * l.length := by
 induction l with
 | nil => simp [Jb0]
 | cons a l i =>
  have g : (bI (viS a)).length <= 10 := by rw [Jar]; exact Jay a
  have f : Jb0 (a :: l) = bI (viS a) ++ Jb0 l := by simp [Jb0]
  rw [f, L0b, L0e]; omega
set_option maxHeartbeats 1000000 in
theorem JlU (u : Bool) (l : List Int) (f : List Int) (M : f.length <= 1000) (L : l.length <= 1000000) (H : ∀ n ∈ f, -4611686018427387903 <= n /\ n <= 4611686018427387903) (K : f.length ≠ 0) :
 LOK prog 83 (inI [184549424]) [.ptr 184549424 2 0 0, SL f] (stO (bLC u l)) (.tup []) (stO (bLC true (l ++ Jb0 f))) := by
 refine Jbp [] [184549424] func83 rfl (by kernel_rfl) mo (nb rfl) rfl (by kernel_rfl) (by kernel_rfl) ?_
 refine SD ?_
 refine Jaf (λ n E y => ∃ v : Nat, v + n = f.length /\ E 0 = .ptr 184549424 2 0 0 /\ E 8 = SL f /\ E 9 = I f.length /\ E 10 = I v /\ y 184549424 = stO (bLC (u || decide (0 < v)) (l ++ Jb0 (f.take v))) 184549424 /\ y 184549425 = stO (bLC (u || decide (0 < v)) (l ++ Jb0 (f.take v))) 184549425) f.length ⟨0, by omega, ?_⟩ ?_
 . refine SD ?_
   cases u <;> simp [Jb0]
 . rintro n E y ⟨v, O, g, m, o, i, j, k⟩
   have A := JdP (f.take v); rw [L01] at A
   have j : y 184549424 = some ⟨184, 2, [.agg [bPC (u || decide (0 < v)), .own 184549425 1 0 (l ++ Jb0 (f.take v)).length]]⟩ := j
   have k : y 184549425 = some ⟨5, 1, (l ++ Jb0 (f.take v)).map Y⟩ := k
   simp -implicitDefEqProofs (disch := omega) only [go_sem, g, m, o, i]
   refine Jab (λ F => ?_) (λ F => ?_)
   . have x := H _ (Jaj f v (by omega))
     have J := Jay (gd f v)
     have C : f.take (v + 1) = f.take v ++ [gd f v] := by rw [L0B, JaE f v (by omega)]; rfl
     have w : l ++ Jb0 (f.take (v + 1)) = (l ++ Jb0 (f.take v)) ++ bI (viS (gd f v)) := by rw [C, Jol, L0E]
     have G : (l ++ Jb0 (f.take v)).length <= 2000000 := by rw [L0b]; omega
     generalize l ++ Jb0 (f.take v) = q at *; generalize N : (u || decide (0 < v)) = z at *; simp -implicitDefEqProofs (disch := omega) only [go_sem, g, m, o, i, j, k]
     refine Jaa (Jc2 (gd f v) x.1 x.2) ?_
     simp -implicitDefEqProofs (disch := omega) only [go_sem, g, m, o, i, j, k]
     refine Jan rfl ?_
     have D : LOK prog 85 (inI [184549424]) ([.ptr 184549424 2 0 0, Str (viS (gd f v))] ++ []) (stO (bLC z q)) (.tup [I (viS (gd f v)).size, .v .nilIface]) (stO (bLC true (q ++ bI (viS (gd f v))))) := Jk8 z q (viS (gd f v)) (by omega)
     refine JaY [184549424] D ?_ ?_ ?_ ?_ ?_ ?_ ?_ (hsp := λ id _ h => h)
     . exact SC
     . simp -implicitDefEqProofs (disch := omega) only [go_sem, g, m, o, i]
     . cases z <;> simp -implicitDefEqProofs (disch := omega) only [go_sem, j, k]
     . exact SC
     . cases z <;> simp -implicitDefEqProofs (disch := omega) only [go_sem]
     . exact SC
     . simp -implicitDefEqProofs (disch := omega) only [go_sem, g, m, o, i, j, k]
       refine Jad (n - 1) (by omega) ⟨v + 1, by omega, ?_⟩
       rw [w, show (u || decide (0 < v + 1)) = true from by simp]
       simp -implicitDefEqProofs (disch := omega) only [go_sem, g, m, o, i, j, k]
       have B : l.length + (Jb0 (f.take (v + 1))).length = q.length + (bI (viS (gd f v))).length := by have := congrArg List.length w; simpa using this
       refine ⟨by simp, by rw [B]⟩
   . have e : v = f.length := by omega
     subst e
     rw [L04, show (u || decide (0 < f.length)) = true from by simp; omega] at j
     rw [L04] at k; simp -implicitDefEqProofs (disch := omega) only [go_sem, g, m, o, i, j, k, results83]
def Jbq (l : List Int) : List Int := l.flatMap λ n => bI (viS n)
theorem Jom (l : List Int) (n : Int) : Jbq (l ++ [n]) = Jbq l ++ bI (viS n) := by simp [Jbq]
theorem Jcb (l : List Int) : (Jbq l).length <= 10 * l.length := by
 induction l with
 | nil => simp [Jbq]
 | cons a l i =>
  have g : (bI (viS a)).length <= 10 := by rw [Jar]; exact Jay a
  have f : Jbq (a :: l) = bI (viS a) ++ Jbq l := by simp [Jbq]
  rw [f, L0b, L0e]; omega
set_option maxHeartbeats 1000000 in
theorem Jhq (u : Bool) (l : List Int) (f : List Int) (M : f.length <= 1000) (L : l.length <= 1000000) (H : ∀ n ∈ f, -4611686018427387903 <= n /\ n <= 4611686018427387903) (K : f.length ≠ 0) :
 LOK prog 83 (inI [100663376]) [.ptr 100663376 2 0 0, SL f] (stO (bLL u l)) (.tup []) (stO (bLL true (l ++ Jbq f))) := by
 refine Jbp [] [100663376] func83 rfl (by kernel_rfl) mo (nb rfl) rfl (by kernel_rfl) (by kernel_rfl) ?_
 refine SD ?_
 refine Jaf (λ n E y => ∃ v : Nat, v + n = f.length /\ E 0 = .ptr 100663376 2 0 0 /\ E 8 = SL f /\ E 9 = I f.length /\ E 10 = I v /\ y 100663376 = stO (bLL (u || decide (0 < v)) (l ++ Jbq (f.take v))) 100663376 /\ y 100663377 = stO (bLL (u || decide (0 < v)) (l ++ Jbq (f.take v))) 100663377) f.length ⟨0, by omega, ?_⟩ ?_
 . refine SD ?_
   cases u <;> simp [Jbq]
 . rintro n E y ⟨v, O, g, m, o, i, j, k⟩
   have A := Jcb (f.take v); rw [L01] at A
   have j : y 100663376 = some ⟨184, 2, [.agg [bPL (u || decide (0 < v)), .own 100663377 1 0 (l ++ Jbq (f.take v)).length]]⟩ := j
   have k : y 100663377 = some ⟨5, 1, (l ++ Jbq (f.take v)).map Y⟩ := k
   simp -implicitDefEqProofs (disch := omega) only [go_sem, g, m, o, i]
   refine Jab (λ F => ?_) (λ F => ?_)
   . have x := H _ (Jaj f v (by omega))
     have J := Jay (gd f v)
     have C : f.take (v + 1) = f.take v ++ [gd f v] := by rw [L0B, JaE f v (by omega)]; rfl
     have w : l ++ Jbq (f.take (v + 1)) = (l ++ Jbq (f.take v)) ++ bI (viS (gd f v)) := by rw [C, Jom, L0E]
     have G : (l ++ Jbq (f.take v)).length <= 2000000 := by rw [L0b]; omega
     generalize l ++ Jbq (f.take v) = q at *; generalize N : (u || decide (0 < v)) = z at *; simp -implicitDefEqProofs (disch := omega) only [go_sem, g, m, o, i, j, k]
     refine Jaa (Jc2 (gd f v) x.1 x.2) ?_
     simp -implicitDefEqProofs (disch := omega) only [go_sem, g, m, o, i, j, k]
     refine Jan rfl ?_
     have D : LOK prog 85 (inI [100663376]) ([.ptr 100663376 2 0 0, Str (viS (gd f v))] ++ []) (stO (bLL z q)) (.tup [I (viS (gd f v)).size, .v .nilIface]) (stO (bLL true (q ++ bI (viS (gd f v))))) := Jk9 z q (viS (gd f v)) (by omega)
     refine JaY [100663376] D ?_ ?_ ?_ ?_ ?_ ?_ ?_ (hsp := λ id _ h => h)
     . exact SC
     . simp -implicitDefEqProofs (disch := omega) only [go_sem, g, m, o, i]
     . cases z <;> simp -implicitDefEqProofs (disch := omega) only [go_sem, j, k]
     . exact SC
     . cases z <;> simp -implicitDefEqProofs (disch := omega) only [go_sem]
     . exact SC
     . simp -implicitDefEqProofs (disch := omega) only [go_sem, g, m, o, i, j, k]
       refine Jad (n - 1) (by omega) ⟨v + 1, by omega, ?_⟩
       rw [w, show (u || decide (0 < v + 1)) = true from by simp]
       simp -implicitDefEqProofs (disch := omega) only [go_sem, g, m, o, i, j, k]
       have B : l.length + (Jbq (f.take (v + 1))).length = q.length + (bI (viS (gd f v))).length := by have := congrArg List.length w; simpa using this
       refine ⟨by simp, by rw [B]⟩
   . have e : v = f.length := by omega
     subst e
     rw [L04, show (u || decide (0 < f.length)) = true from by simp; omega] at j
     rw [L04] at k; simp -implicitDefEqProofs (disch := omega) only [go_sem, g, m, o, i, j, k, results83]
abbrev TT (s : List Int) (d : ByteArray) : AV := .agg (s.map I ++ [Str d])
theorem Jih (p : Nat -> Bool) : ∀ (l m : List AV), AV.namesL p l = false -> AV.namesL p m = false -> AV.namesL p (l ++ m) = false
 | [], m, _, h => h
 | c :: l, m, f, g => by
  simp only [AV.namesL, L1y, L0L] at f ⊢
  exact ⟨f.1, Jih p l m f.2 g⟩
@[go_sem] theorem JqC (p : Nat -> Bool) (s : List Int) (d : ByteArray) : AV.namesL p (s.map I ++ [Str d]) = false := Jih p _ _ (Jak p s I λ _ => rfl) rfl
@[go_sem] theorem Jss (s : List Int) (d : ByteArray) : AV.flatL (s.map I ++ [Str d]) = true := by
 rw [AV.flatL_iff]; intro c hc
 rcases L0t.1 hc with h | h
 . obtain ⟨x, _, rfl⟩ := L05.1 h; rfl
 . simp at h; subst h; rfl
theorem JiJ (s : List Int) (d : ByteArray) : ∀ a ∈ (TT s d).cells, a.cells = [a] := by
 intro a ha
 rcases L0t.1 ha with h | h
 . obtain ⟨x, _, rfl⟩ := L05.1 h; rfl
 . simp at h; subst h; rfl
def numS : List Int -> ByteArray
 | [] => ⟨#[]⟩
 | n :: l => viS n ++ numS l
def Jcf (s : List Int) (d : ByteArray) : ByteArray := numS s ++ d
theorem Jby (a b : ByteArray) : bI (a ++ b) = bI a ++ bI b := by
 unfold bI; rw [L2u]; simp
theorem Jhp : ∀ l, bI (numS l) = Jb0 l
 | [] => rfl
 | n :: l => by rw [numS, Jby, Jhp l]; simp [Jb0]
theorem JdQ (l : List Int) : (numS l).size <= 10 * l.length := by
 rw [<- Jar, Jhp]; exact JdP l
set_option maxHeartbeats 1000000 in
theorem Jlq (s : List Int) (d : ByteArray) (f : s.length = 8) (A : ∀ n ∈ s, -4611686018427387903 <= n /\ n <= 4611686018427387903) (C : d.size = 32) : Ev prog 87 [TT s d] (Str (Jcf s d)) := by
 refine EV func87 ?_
 refine SA ?_
 refine Jcs [184549392] ?_
 refine JcA (c := TT s d) (j := 0) (m := 8) 0 8 SC Jdt Jtv (by simp [f]) ⟨rfl, rfl, by omega, by omega⟩ ?_ (JiJ s d)
 have o : ((TT s d).cells.drop (0 + 0)).take (8 - 0) = s.map I := by
  show (s.map I ++ [Str d]).take 8 = s.map I
  rw [L1O (by simp [f]), L03 (by simp [f])]
 rw [o]; refine SA ?_; have B := JdP s
 refine Jan rfl ?_
 refine Jd6 184549424 184549425 0 1 5 1 (k := ⟨184, 2, [.agg [.v (.pointer none), .v (.slice none 0 0)]]⟩) (el := .agg [.v (.pointer none), .v (.slice none 0 0)]) SC (by decide) rfl rfl (by decide) SC rfl ?_
 have w : LOK prog 83 (inI [184549424]) ([.ptr 184549424 2 0 0, SL s] ++ []) (stO (bLC false [])) (.tup []) (stO (bLC true (Jb0 s))) := JlU false [] s (by omega) (by simp) A (by omega)
 refine JaY [184549424] w ?_ ?_ ?_ ?_ ?_ ?_ ?_
 . exact SC
 . exact SC
 . refine SA ?_
   simp
 . exact SC
 . exact SC
 . exact SC
 . have u : (s.map I ++ [Str d])[8]? = some (Str d) := by rw [L0o (by simp [f])]; simp [f]
   refine SA ?_
   refine Jan rfl ?_
   have g : LOK prog 85 (inI [184549424]) ([.ptr 184549424 2 0 0, Str d] ++ []) (stO (bLC true (Jb0 s))) (.tup [I d.size, .v .nilIface]) (stO (bLC true (Jb0 s ++ bI d))) := Jk8 true (Jb0 s) d (by omega)
   refine JaY [184549424] g ?_ ?_ ?_ ?_ ?_ ?_ ?_
   . exact SC
   . exact SC
   . exact SC
   . exact SC
   . exact SC
   . exact SC
   . have x : bI (Jcf s d) = Jb0 s ++ bI d := by unfold Jcf; rw [Jby, Jhp]
     have y : (Jcf s d).size = (numS s).size + d.size := by unfold Jcf; rw [L0w]
     have z := JdQ s; rw [<- x]; refine SD ?_
     refine Jan rfl ?_
     have i : LOK prog 86 (inI [184549424]) ([.ptr 184549424 2 0 0] ++ []) (stO (bLC true (bI (Jcf s d)))) (Str (Jcf s d)) (stO [(184549424, ⟨184, 2, [.agg [bPC true, .any]]⟩), (184549425, ⟨5, 1, []⟩)]) := JoH true (Jcf s d) (by omega) (by omega)
     refine JaY [184549424] i ?_ ?_ ?_ ?_ ?_ ?_ ?_
     . exact SC
     . exact SC
     . exact SC
     . exact SC
     . exact SC
     . exact SC
     . exact SB
@[go_sem high] theorem JCE (s : List Int) (d : ByteArray) (j : Nat) (x : Int) (f : j < s.length) : setC (.agg (s.map I ++ [Str d])) j (I x) = .agg ((s.set j x).map I ++ [Str d]) := by
 have g : s ≠ [] := by intro h; rw [h] at f; cases f
 rw [Jjr, if_neg (by simp [g])]
 congr 1
 simp only [AV.cells_agg, AV.cells_v, L18]
 rw [L2c, if_pos f, L1O (by simp; omega), List.drop_append_of_le_length (by simp; omega)]
 simp
@[go_sem] theorem get_TT (s : List Int) (d : ByteArray) (j : Nat) (f : j < s.length) : (s.map I ++ [Str d])[j]? = some (I (gd s j)) := by
 rw [L0k (by simpa using f), L07, JaE s j f]; rfl
def JfJ (s t : List Int) : List Int := (List.range 8).map λ j => gd s j + gd t j
def Jko (s t : List Int) (v : Nat) : List Int := (List.range 8).map λ j => if j < v then gd s j + gd t j else 0
theorem JcJ (s t : List Int) (v : Nat) : (Jko s t v).length = 8 := by simp [Jko]
theorem Jb9 (s t : List Int) : (JfJ s t).length = 8 := by simp [JfJ]
theorem JmP (s t : List Int) (v j : Nat) (f : j < 8) : gd (Jko s t v) j = if j < v then gd s j + gd t j else 0 := by
 unfold Jko gd; simp [L0X, f]
theorem Jqk (s t : List Int) (v : Nat) (g : v < 8) : (Jko s t v).set v (gd s v + gd t v) = Jko s t (v + 1) := Je1 (by simp [JcJ]) λ j f => by
 rw [L24, JcJ] at f
 rw [Jha _ _ _ _ (by rw [JcJ]; exact g), JmP _ _ _ _ f, JmP _ _ _ _ f]
 by_cases e : j = v
 . subst e; simp
 . simp only [e, if_false, show j < v ↔ j < v + 1 from by omega]
theorem Jqj (s t : List Int) : Jko s t 8 = JfJ s t := L0S λ j f => by simp at f; simp [f]
set_option maxHeartbeats 1000000 in
theorem Jvf (s t : List Int) (d e : ByteArray) (j : s.length = 8) (i : t.length = 8) (M : ∀ n ∈ s, -2000000000000000000 <= n /\ n <= 2000000000000000000) (L : ∀ n ∈ t, -2000000000000000000 <= n /\ n <= 2000000000000000000) (S : d.size = 32) (T : e.size = 32) :
 Ev prog 49 [TT s d, TT t e] (TT (JfJ s t) (JaW (Jcf s d) (Jcf t e))) := by
 refine EV func49 ?_
 have Q : (Jcf s d).size <= 1000 := by have := JdQ s; unfold Jcf; rw [L0w]; omega
 have R : (Jcf t e).size <= 1000 := by have := JdQ t; unfold Jcf; rw [L0w]; omega
 have g : (s.map I ++ [Str d]).take 9 = s.map I ++ [Str d] := L03 (by simp [j])
 have f : (t.map I ++ [Str e]).take 9 = t.map I ++ [Str e] := L03 (by simp [i])
 refine SA ?_
 refine Jaa (Jlq s d j (λ n J => by have := M n J; omega) S) ?_
 refine SA ?_
 refine Jaa (Jlq t e i (λ n J => by have := L n J; omega) T) ?_
 refine SA ?_
 refine Jaa (JeA (Jcf s d) (Jcf t e) (by omega)) ?_
 refine SA ?_; generalize JaW (Jcf s d) (Jcf t e) = N
 refine Jaf (λ n E y => ∃ v : Nat, v + n = 8 /\ E 2 = .ptr 104857632 9 0 0 /\ E 3 = .ptr 104857648 9 0 0 /\ E 4 = .ptr 104857664 9 0 0 /\ E 5 = .ptr 104857680 9 0 0 /\ E 13 = I v /\ y 104857632 = some ⟨125, 9, [TT s d]⟩ /\ y 104857648 = some ⟨125, 9, [TT t e]⟩ /\ y 104857664 = some ⟨125, 9, [TT (List.replicate 8 0) ⟨#[]⟩]⟩ /\ y 104857680 = some ⟨125, 9, [TT (Jko s t v) N]⟩) 8 ⟨0, by omega, ?_⟩ ?_
 . refine SA ?_
   exact ⟨rfl, rfl, rfl⟩
 . rintro n E y ⟨v, W, z, A, B, C, k, D, F, G, H⟩
   have u := JcJ s t v; refine SA ?_
   refine Jab (λ P => ?_) (λ P => ?_)
   . have U := M _ (Jaj s v (by omega))
     have V := L _ (Jaj t v (by omega))
     have m := Jqk s t v (by omega)
     refine SA ?_
     refine Jad (n - 1) (by omega) ⟨v + 1, by omega, ?_⟩
     refine SA ?_
     simp
   . have O : v = 8 := by omega
     subst O; have o := Jqj s t
     have x : (List.replicate 8 (0 : Int)).length = 8 := rfl
     have w := Jb9 s t
     have K : ((JfJ s t).map I ++ [Str N]).take 9 = (JfJ s t).map I ++ [Str N] := L03 (by simp [w])
     exact SB
def chB (c : Ch) : List Int := Jbq [c.p, c.q, c.a] ++ bI (viS c.t.size ++ c.t)
def chsB (l : List Ch) : List Int := Jbq [(l.length : Int)] ++ l.flatMap chB
theorem JnJ (c : Ch) (h : c.ok) : (chB c).length <= 140 := by
 have f := Jcb [c.p, c.q, c.a]
 have g := Jay (c.t.size : Int)
 obtain ⟨_, _, _, _, _, _, _, _, i⟩ := h
 unfold chB; rw [L0b, Jar, L0w]
 simp at f; omega
theorem Jdh : ∀ (l : List Ch), (∀ c ∈ l, c.ok) -> (l.flatMap chB).length <= 140 * l.length
 | [], _ => by simp
 | c :: l, h => by
  have g := JnJ c (h c (by simp))
  have i := Jdh l λ c f => h c (by simp [f])
  rw [L1B, L0b, L0e]; omega
theorem JuX : ∀ k z, 1 <= (grp k z).length
 | 0, z => by simp [grp]
 | k + 1, z => by unfold grp; split <;> simp
set_option maxHeartbeats 2000000 in
theorem Jtt (m : ByteArray) (l : List Ch) (hs : m.size = 32) (J : ∀ c ∈ l, c.ok) (S : l.length <= 1000) (D : ByteArray) (O : bI D = chsB l) :
 Ev prog 47 [Str m, CL l] (TT (JaO l) (JaG (Jcf (JaO l) (JaW m (JaG D))))) := by
 refine EV func47 ?_
 refine SA ?_
 refine Jan rfl ?_
 refine Jcs [100663504] ?_
 refine Jd6 100663376 100663377 0 1 5 1 (k := ⟨184, 2, [.agg [.v (.pointer none), .v (.slice none 0 0)]]⟩) (el := .agg [.v (.pointer none), .v (.slice none 0 0)]) SC (by decide) rfl rfl (by decide) SC rfl ?_
 have U : LOK prog 83 (inI [100663376]) ([.ptr 100663376 2 0 0, SL [(l.length : Int)]] ++ []) (stO (bLL false [])) (.tup []) (stO (bLL true (Jbq [(l.length : Int)]))) := Jhq false [] [(l.length : Int)] (by simp) (by simp) (by simp; omega) (by simp)
 refine JaY [100663376] U ?_ ?_ ?_ ?_ ?_ ?_ ?_
 . exact SC
 . refine SA ?_
   rfl
 . refine SA ?_
   simp
 . exact SC
 . exact SC
 . exact SC
 . refine SA ?_
   refine Jaf (λ n E T => ∃ v : Nat, v + n = l.length /\ E 0 = Str m /\ E 1 = CL l /\ E 4 = .ptr 100663360 9 0 0 /\ E 5 = .ptr 100663376 2 0 0 /\ E 15 = CL l /\ E 16 = I l.length /\ E 17 = I v /\ T 100663360 = some ⟨125, 9, [.agg [I 0, I 0, I 0, I 0, I 0, I 0, I 0, I 0, Str ⟨#[]⟩]]⟩ /\ T 100663376 = some ⟨184, 2, [.agg [.ptr 100663376 2 0 0, .own 100663377 1 0 (Jbq [(l.length : Int)] ++ (l.take v).flatMap chB).length]]⟩ /\ T 100663377 = some ⟨5, 1, (Jbq [(l.length : Int)] ++ (l.take v).flatMap chB).map Y⟩) l.length ⟨0, by omega, ?_⟩ ?_
   . simp -implicitDefEqProofs (disch := omega) only [go_sem, L1G, List.flatMap_nil, L0F]
     exact ⟨rfl, rfl⟩
   . rintro n E T ⟨v, hv, x, y, z, A, f, g, j, B, o, u⟩
     refine SA ?_
     refine Jab (λ Z => ?_) (λ Z => ?_)
     . have ac := J _ (Jaj l v (by omega))
       have af : (Jbq [(l.length : Int)] ++ (l.take v).flatMap chB).length <= 500000 := by
        have a1 := Jcb [(l.length : Int)]
        have a2 := Jdh (l.take v) λ c Z => J c (L0J Z)
        rw [L01] at a2; rw [L0b]; simp only [L0e, L0r] at a1; omega
       have ad : l.take (v + 1) = l.take v ++ [gd l v] := by rw [L0B, JaE l v (by omega)]; rfl
       have G : Jbq [(l.length : Int)] ++ (l.take (v + 1)).flatMap chB = (Jbq [(l.length : Int)] ++ (l.take v).flatMap chB) ++ chB (gd l v) := by rw [ad, L2r, L0E]; simp
       generalize Jbq [(l.length : Int)] ++ (l.take v).flatMap chB = q at *; obtain ⟨p1, p2, q1, q2, a1, a2, _, _, ht⟩ := ac; have Q := Jcb [(gd l v).p, (gd l v).q, (gd l v).a]; simp only [L0e, L0r] at Q
       have ai := Jay ((gd l v).t.size : Int)
       refine SA ?_
       refine Jan rfl ?_
       refine Jcs [100663728] ?_
       have U : LOK prog 83 (inI [100663376]) ([.ptr 100663376 2 0 0, SL [(gd l v).p, (gd l v).q, (gd l v).a]] ++ []) (stO (bLL true q)) (.tup []) (stO (bLL true (q ++ Jbq [(gd l v).p, (gd l v).q, (gd l v).a]))) := Jhq true q _ (by simp) (by omega) (by intro n S; simp at S; rcases S with rfl | rfl | rfl <;> omega) (by simp)
       have K : chB (gd l v) = Jbq [(gd l v).p, (gd l v).q, (gd l v).a] ++ bI (viS ((gd l v).t.size : Int) ++ (gd l v).t) := rfl
       generalize Jbq [(gd l v).p, (gd l v).q, (gd l v).a] = q3 at *
       refine JaY [100663376] U ?_ ?_ ?_ ?_ ?_ ?_ ?_
       . simp -implicitDefEqProofs (disch := omega) only [go_sem, x, y, z, A, f, g, j, B, o, u]
       . refine SA ?_
         rfl
       . simp -implicitDefEqProofs (disch := omega) only [go_sem, x, y, z, A, f, g, j, B, o, u]
       . exact SC
       . exact SC
       . exact SC
       . refine SA ?_
         refine Jaa (JqW (gd l v).t (by omega)) ?_
         have aj : (viS ((gd l v).t.size : Int) ++ (gd l v).t).size <= 200 := by rw [L0w]; omega
         rw [K] at G; generalize viS ((gd l v).t.size : Int) ++ (gd l v).t = w at *; simp -implicitDefEqProofs (disch := omega) only [go_sem, x, y, z, A, f, g, j, B, o, u]
         refine Jan rfl ?_
         have V : LOK prog 85 (inI [100663376]) ([.ptr 100663376 2 0 0, Str w] ++ []) (stO (bLL true (q ++ q3))) (.tup [I w.size, .v .nilIface]) (stO (bLL true (q ++ q3 ++ bI w))) := Jk9 true (q ++ q3) w (by rw [L0b]; omega)
         refine JaY [100663376] V ?_ ?_ ?_ ?_ ?_ ?_ ?_
         . simp -implicitDefEqProofs (disch := omega) only [go_sem, x, y, z, A, f, g, j, B, o, u]
         . simp -implicitDefEqProofs (disch := omega) only [go_sem, x, y, z, A, f, g, j, B, o, u]
         . simp -implicitDefEqProofs (disch := omega) only [go_sem, x, y, z, A, f, g, j, B, o, u]
         . exact SC
         . exact SC
         . exact SC
         . refine SA ?_
           refine Jad (n - 1) (by omega) ⟨v + 1, by omega, ?_⟩
           rw [G, <- L0E]; simp -implicitDefEqProofs (disch := omega) only [go_sem, x, y, z, A, f, g, j, B, o, u]; have P := congrArg List.length G; simp only [L0b] at P
           refine ⟨by simp, ?_⟩
           rw [P, L0K]
     . have e : v = l.length := by omega
       subst e; rw [L04] at o u; have K := Jdh l J
       have ab := Jcb [(l.length : Int)]
       simp only [L0e, L0r] at ab
       have ag : D.size = (chsB l).length := by rw [<- O, Jar]
       have ae : (chsB l).length <= 200000 := by unfold chsB; rw [L0b]; omega
       have L : D.size ≠ 0 := by
        have hz : 1 <= (chsB l).length := by
         have hp : 1 <= (bI (viS (l.length : Int))).length := by
          rw [Jar, viS, strOfNums_size]; unfold viB; rw [L0c]; exact JuX _ _
         have hq : (Jbq [(l.length : Int)]).length = (bI (viS (l.length : Int))).length := by simp [Jbq]
         unfold chsB; rw [L0b]; omega
        omega
       rw [show Jbq [(l.length : Int)] ++ l.flatMap chB = bI D from O.symm] at o u
       refine SA ?_
       refine Jaa (JrA l J S) ?_
       refine SA ?_
       refine Jan rfl ?_
       have W : LOK prog 86 (inI [100663376]) ([.ptr 100663376 2 0 0] ++ []) (stO (bLL true (bI D))) (Str D) (stO [(100663376, ⟨184, 2, [.agg [bPL true, .any]]⟩), (100663377, ⟨5, 1, []⟩)]) := JoI true D L (by omega)
       refine JaY [100663376] W ?_ ?_ ?_ ?_ ?_ ?_ ?_
       . simp -implicitDefEqProofs (disch := omega) only [go_sem, x, y, z, A, f, g, j, B, o, u]
       . simp -implicitDefEqProofs (disch := omega) only [go_sem, x, y, z, A, f, g, j, B, o, u]
       . simp -implicitDefEqProofs (disch := omega) only [go_sem, x, y, z, A, f, g, j, B, o, u]
       . exact SC
       . exact SC
       . exact SC
       . have C : (JaO l).length = 8 := by have := (Jcm l J l.length (L09 _)).1; rwa [L04] at this
         refine SA ?_
         refine Jaa (JfL D (by omega)) ?_
         refine SA ?_
         refine Jaa (JeA m (JaG D) (by rw [Ja4]; omega)) ?_
         have F : ∀ M N : ByteArray, List.take 8 ((JaO l).map I ++ [Str M]) ++ [Str N] ++ List.drop 9 ((JaO l).map I ++ [Str M]) = (JaO l).map I ++ [Str N] := λ M N => by
          rw [L1O (by simp [C]), L03 (by simp [C]), L2k (by simp [C])]; simp
         have H : ∀ N : ByteArray, ((JaO l).map I ++ [Str N]).take 9 = (JaO l).map I ++ [Str N] := λ N => L03 (by simp [C])
         have R := (Jcm l J l.length (L09 _)).2; rw [L04] at R; simp -implicitDefEqProofs (disch := omega) only [go_sem, x, y, z, A, f, g, j, B, o, u, C, F, H]; have X := Jbt m (JaG D)
         refine Jaa (Jlq (JaO l) (JaW m (JaG D)) C ?_ X) ?_
         . intro n aa
           obtain ⟨i, hi, rfl⟩ := L1l.1 aa
           have := R i
           have hg : gd (JaO l) i = (JaO l)[i] := by unfold gd; simp [hi]
           rw [hg] at this; omega
         have ah : (Jcf (JaO l) (JaW m (JaG D))).size <= 1000 := by have := JdQ (JaO l); unfold Jcf; rw [L0w]; omega
         refine SA ?_
         refine Jaa (JfL (Jcf (JaO l) (JaW m (JaG D))) (by omega)) ?_
         exact SB
def chS (c : Ch) : ByteArray := numS [c.p, c.q, c.a] ++ (viS c.t.size ++ c.t)
def chsS : List Ch -> ByteArray
 | [] => ⟨#[]⟩
 | c :: l => chS c ++ chsS l
def JcE (l : List Ch) : ByteArray := numS [(l.length : Int)] ++ chsS l
theorem Jm3 (l : List Int) : Jbq l = Jb0 l := rfl
theorem JxS (c : Ch) : bI (chS c) = chB c := by unfold chS chB; rw [Jby, Jhp, Jm3]
theorem Jlp : ∀ l, bI (chsS l) = l.flatMap chB
 | [] => rfl
 | c :: l => by rw [chsS, Jby, JxS, Jlp l, L1B]
theorem Jsl (l : List Ch) : bI (JcE l) = chsB l := by unfold JcE chsB; rw [Jby, Jhp, Jlp, Jm3]
def Juh (f : ByteArray) (l : List Ch) : ByteArray := JaG (Jcf (JaO l) (JaW f (JaG (JcE l))))
theorem Jts (f : ByteArray) (l : List Ch) (j : f.size = 32) (g : ∀ c ∈ l, c.ok) (i : l.length <= 1000) : Ev prog 47 [Str f, CL l] (TT (JaO l) (Juh f l)) :=
 Jtt f l j g i (JcE l) (Jsl l)
def inF (n g f : Int) : Bool := decide (g <= n /\ n <= f)
theorem JbT (n g f : Int) : Ev prog 32 [I n, I g, I f] (B (inF n g f)) := by
 refine EV func32 ?_
 refine SA ?_
 refine Jab (λ h => ?_) (λ h => ?_) <;> simp -implicitDefEqProofs (disch := omega) only [go_sem, results32]
 . simp [inF, h]
 . simp [inF, h]
def chOK (c : Ch) : Bool := inF c.p 0 7 && inF c.q 0 7 && decide (c.p ≠ c.q) && inF c.h 0 63 && inF c.a 0 1000000000 && decide (c.t.size <= 100)
theorem Jpx (c : Ch) (h : chOK c = true) : c.ok := by
 simp only [chOK, inF, L00, decide_eq_true_eq] at h
 unfold Ch.ok; omega
theorem Jhd (c : Ch) : Ev prog 33 [CH c] (B (chOK c)) := by
 refine EV func33 ?_
 refine SA ?_; unfold chOK
 refine Jaa (JbT c.p 0 7) ?_
 generalize inF c.p 0 7 = f; refine SA ?_
 cases f
 . exact SB
 refine SA ?_
 refine Jaa (JbT c.q 0 7) ?_
 generalize inF c.q 0 7 = g; refine SA ?_
 cases g
 . exact SB
 refine SA ?_
 by_cases hpq : c.p = c.q
 . exact SB
 refine SA ?_
 refine Jaa (JbT c.h 0 63) ?_
 generalize inF c.h 0 63 = i; refine SA ?_
 cases i
 . exact SB
 refine SA ?_
 refine Jaa (JbT c.a 0 1000000000) ?_
 generalize inF c.a 0 1000000000 = j; refine SA ?_
 cases j
 . exact SB
 refine SA ?_
 rw [show decide ((c.t.size : Int) <= 100) = decide (c.t.size <= 100) from decide_eq_decide.2 (by omega)]
theorem JnL (c : Ch) : Ev prog 75 [CH c] (B (!chOK c)) := by
 refine EV func75 ?_
 refine SA ?_
 refine Jaa (Jhd c) ?_
 exact SB
def Jgq (l : List Ch) (v : Nat) : Nat -> Int
 | 0 => -1
 | n + 1 => if chOK (gd l v) then Jgq l (v + 1) n else v
theorem Jj4 (l : List Ch) : ∀ n v, v + n = l.length -> (Jgq l v n < 0 ↔ ∀ i, v <= i -> i < l.length -> chOK (gd l i) = true)
 | 0, v, h => by simp only [Jgq]; constructor <;> intro _ <;> (try omega)
 | n + 1, v, h => by
  unfold Jgq
  split
  . rename_i hc
    rw [Jj4 l n (v + 1) (by omega)]
    constructor
    . intro hh i h1 h2
      rcases L1t v i with h3 | h3
      . exact hh i h3 h2
      . obtain rfl : i = v := by omega
        exact hc
    . intro hh i h1 h2; exact hh i (by omega) h2
  . rename_i hc
    constructor
    . intro hh; omega
    . intro hh; exact absurd (hh v (L09 _) (by omega)) hc
theorem Jqc (l : List Ch) (x : l.length <= 1000000) : Ev prog 82 [CL l, .clo 75 []] (I (Jgq l 0 l.length)) := by
 refine EV func82 ?_
 refine SA ?_
 refine Jaf (λ n E w => ∃ v : Nat, v + n = l.length /\ E 0 = CL l /\ E 1 = .clo 75 [] /\ E 7 = I l.length /\ E 8 = I v /\ Jgq l 0 l.length = Jgq l v n) l.length ⟨0, by omega, ?_⟩ ?_
 . refine SA ?_
   simp
 . rintro n E w ⟨v, y, g, i, j, k, f⟩
   simp -implicitDefEqProofs (disch := omega) only [go_sem, g, i, j, k]
   refine Jab (λ u => ?_) (λ u => ?_)
   . simp -implicitDefEqProofs (disch := omega) only [go_sem, g, i, j, k]
     refine Jaa (JnL _) ?_
     simp -implicitDefEqProofs (disch := omega) only [go_sem, g, i, j, k]
     obtain ⟨m, rfl⟩ : ∃ m, n = m + 1 := ⟨n - 1, by omega⟩
     refine Jab (λ o => ?_) (λ o => ?_)
     . simp -implicitDefEqProofs (disch := omega) only [go_sem, results82]
       rw [f]; simp [Jgq, o]
     . simp -implicitDefEqProofs (disch := omega) only [go_sem, g, i, j, k]
       refine Jad m (by omega) ⟨v + 1, by omega, ?_⟩
       simp -implicitDefEqProofs (disch := omega) only [go_sem, g, i, j, k]
       refine ⟨by simp, ?_⟩
       rw [f]; simp at o; simp [Jgq, o]
   . simp -implicitDefEqProofs (disch := omega) only [go_sem, results82]
     have : n = 0 := by omega
     subst this; rw [f]; rfl
theorem JjV (l : List Ch) (f : l.length <= 1000000) : Ev prog 46 [CL l, .clo 75 []] (B (decide (0 <= Jgq l 0 l.length))) := by
 refine EV func46 ?_
 refine SA ?_
 refine Jaa (Jqc l f) ?_
 exact SB
def Jcp (l : List Ch) : Bool := decide (l.length <= 60) && decide (∀ i, i < l.length -> chOK (gd l i) = true)
theorem Jcg (l : List Ch) (n : l.length <= 9223372036854775807) : Ev prog 39 [CL l] (B (Jcp l)) := by
 refine EV func39 ?_
 refine SA ?_
 refine Jab (λ m => ?_) (λ m => ?_)
 . refine SA ?_
   refine Jaa (JjV l (by omega)) ?_
   refine SA ?_
   have g := Jj4 l l.length 0 (by omega)
   have j : l.length <= 60 := by omega
   have k : (decide (0 <= Jgq l 0 l.length)) = !decide (∀ i, i < l.length -> chOK (gd l i) = true) := by
    rw [<- decide_not]; apply decide_eq_decide.2
    rw [show (∀ i, i < l.length -> chOK (gd l i) = true) ↔ Jgq l 0 l.length < 0 from ⟨λ h => g.2 λ i _ f => h i f, λ h i f => g.1 h i (L17 _) f⟩]
    omega
   simp only [Jcp, j, k, decide_true, L0d, Bool.not_not]
 . refine SA ?_
   have : ¬ l.length <= 60 := by omega
   simp [Jcp, this]
theorem JcY (l : List Ch) (h : Jcp l = true) : l.length <= 60 /\ ∀ c ∈ l, c.ok := by
 simp only [Jcp, L00, decide_eq_true_eq] at h
 refine ⟨h.1, λ c g => ?_⟩
 obtain ⟨i, f, rfl⟩ := L1l.1 g
 have := h.2 i f
 rw [show gd l i = l[i] from by unfold gd; simp [f]] at this
 exact Jpx _ this
theorem Jrz (l : List Ch) (n : l.length <= 9223372036854775807) (h : Jcp l = true) : Ev prog 13 [CL l] (.tup [SL (JaO l), I 0]) := by
 obtain ⟨o, i⟩ := JcY l h
 have f : (JaO l).length = 8 := by have := (Jcm l i l.length (L09 _)).1; rwa [L04] at this
 refine EV func13 ?_
 refine SA ?_; have k := Jcg l n; rw [h] at k
 refine Jaa k ?_
 refine SA ?_
 refine Jaa (JrA l i (by omega)) ?_
 refine SA ?_
 refine Jcs [29360192] ?_
 refine JcA (c := .agg ((JaO l).map I)) (j := 0) (m := 8) 0 8 SC Jdt Jtv (by simp [f]) ⟨rfl, rfl, by omega, by omega⟩ ?_
 have g : (JaO l).take 8 = JaO l := L03 (by omega)
 exact SB
theorem Jmx (s : List Int) (g : s.length ≠ 0) (i : s.length <= 1000000) : Ev prog 78 [SL s] (SL s) := by
 refine Jch (r := .new 3 1 (s.map I)) ?_ _
 refine EV func78 ?_
 have f : s ≠ [] := by intro h; rw [h] at g; exact g rfl
 refine SA ?_
 try simp -implicitDefEqProofs (disch := omega) only [go_sem, results78, L04]
theorem Jdx (f : ByteArray) (l : List Ch) (j : l.length <= 9223372036854775807) : Ev prog 21 [.agg [Str f, CL l]] (B (decide (f.size = 32) && Jcp l)) := by
 refine EV func21 ?_
 refine SA ?_
 refine Jab (λ i => ?_) (λ i => ?_)
 . refine SA ?_
   refine Jaa (Jcg l j) ?_
   refine SA ?_
   have g : f.size = 32 := by omega
   simp [g]
 . refine SA ?_
   have g : ¬ f.size = 32 := by omega
   simp [g]
abbrev Deb := Int × Int × Int
abbrev DP (d : Deb) : AV := .agg [I d.1, I d.2.1, I d.2.2]
section
variable (p : Nat -> Bool) (l : List Deb)
@[go_sem] theorem Jyu : AV.namesL p (l.map DP) = false := Jak p l DP λ _ => rfl
@[go_sem] theorem JAa : AV.flatL (l.map DP) = true := JaP l DP λ _ => rfl
@[go_sem] theorem JzC : Jbv 3 (l.map DP) = true := Jaw 3 l DP λ _ => ⟨rfl, rfl⟩
@[go_sem] theorem JxJ (a b c : Int) : l.map DP ++ [.agg [.v (.int .i64 a), .v (.int .i64 b), .v (.int .i64 c)]] = (l ++ [(a, b, c)]).map DP := by simp
end
def debF (l : List Ch) : List Deb := (l.filter λ c => decide (0 < c.a)).map λ c => (c.p, c.q, c.a)
theorem Jlv (l : List Ch) : (debF l).length <= l.length := by unfold debF; rw [L0c]; exact L1u ..
theorem JnU (l : List Ch) (h : Jcp l = true) : Ev prog 18 [CL l] (.tup [.sl 3 ((debF l).map DP), I 0]) := by
 obtain ⟨A, _⟩ := JcY l h
 refine Jch (r := .tup [.new 88 3 ((debF l).map DP), I 0]) ?_ _
 refine EV func18 ?_
 refine SA ?_
 have w := Jcg l (by omega)
 rw [h] at w
 refine Jaa w ?_
 refine SA ?_
 refine Jaf (λ n E y => ∃ v : Nat, v + n = l.length /\ E 4 = .own 39845952 3 0 (debF (l.take v)).length /\ E 10 = CL l /\ E 11 = I l.length /\ E 12 = I v /\ y 39845952 = some ⟨88, 3, (debF (l.take v)).map DP⟩) l.length ⟨0, by omega, ?_⟩ ?_
 . refine SA ?_
   simp [debF]
 . rintro n E y ⟨v, w, j, f, g, i, k⟩
   have o := Jlv (l.take v); rw [L01] at o; simp -implicitDefEqProofs (disch := omega) only [go_sem, j, f, g, i, k]
   refine Jab (λ z => ?_) (λ z => ?_)
   . have u : l.take (v + 1) = l.take v ++ [gd l v] := by rw [L0B, JaE l v (by omega)]; rfl
     refine SA ?_
     refine Jab (λ x => ?_) (λ x => ?_)
     . have m : debF (l.take (v + 1)) = debF (l.take v) ++ [((gd l v).p, (gd l v).q, (gd l v).a)] := by rw [u]; simp [debF, x]
       simp -implicitDefEqProofs (disch := omega) only [go_sem, j, f, g, i, k, L04]
       refine Jad (n - 1) (by omega) ⟨v + 1, by omega, ?_⟩
       rw [m]; simp -implicitDefEqProofs (disch := omega) only [go_sem, j, f, g, i, k, L04]
       simp
     . have m : debF (l.take (v + 1)) = debF (l.take v) := by rw [u]; simp [debF]; omega
       refine SA ?_
       refine Jad (n - 1) (by omega) ⟨v + 1, by omega, ?_⟩
       rw [m]; refine SA ?_
       simp
   . have e : v = l.length := by omega
     subst e; rw [L04] at j k o; simp -implicitDefEqProofs (disch := omega) only [go_sem, j, f, g, i, k, L04, results18]
theorem Jau {p : Nat -> Bool} {a v : AV} (h : a = v) (f : AV.kill p v = v) : AV.kill p a = v := by rw [h, f]
abbrev Tot := List Int × ByteArray
instance : Inhabited ByteArray := ⟨⟨#[]⟩⟩
abbrev TP (t : Tot) : AV := TT t.1 t.2
abbrev RP (t : Tot) : AV := .agg [SL t.1, Str t.2]
abbrev TPL (l : List Tot) : AV := .sl 9 (l.map TP)
abbrev RPL (l : List Tot) : AV := .sl 2 (l.map RP)
section
variable (p : Nat -> Bool) (l : List Tot)
@[go_sem] theorem JqB : AV.namesL p (l.map TP) = false := Jak p l TP λ t => JqC p t.1 t.2
@[go_sem] theorem Jpe (a : List Int) (b : ByteArray) : l.map TP ++ [.agg (a.map I ++ [.v (.string b)])] = (l ++ [(a, b)]).map TP := by simp
@[go_sem] theorem Jsr : AV.flatL (l.map TP) = true := JaP l TP λ t => Jss t.1 t.2
@[go_sem] theorem Jyx : AV.namesL p (l.map RP) = false := Jak p l RP λ _ => rfl
@[go_sem] theorem JzF : Jbv 2 (l.map RP) = true := Jaw 2 l RP λ _ => ⟨rfl, rfl⟩
@[go_sem] theorem JxM (a : List Int) (b : ByteArray) : l.map RP ++ [.agg [.sl 1 (a.map I), .v (.string b)]] = (l ++ [(a, b)]).map RP := by simp
end
theorem Jh4 {T : Type} [Inhabited T] (l : List T) (i : Nat) (h : i < l.length) : gd l i = l[i] := by simp [gd, h]
theorem Jbc {T : Type} (l : List T) (f : T -> AV) (h : ∀ x, (f x).dn = false) : AV.dnL (l.map f) = false := by
 cases e : AV.dnL (l.map f) with
 | false => rfl
 | true => obtain ⟨c, i, g⟩ := (Jfw _).1 e; obtain ⟨x, _, rfl⟩ := L05.1 i; rw [h x] at g; cases g
theorem JxX (l : List Ch) : (CL l).dn = false := Jbc l CH λ _ => rfl
theorem JBt (l : List Int) : (SL l).dn = false := Jbc l I λ _ => rfl
theorem JxZ (t : Tot) : (TP t).dn = false := by
 show AV.dnL (t.1.map I ++ [Str t.2]) = false
 cases e : AV.dnL (t.1.map I ++ [Str t.2]) with
 | false => rfl
 | true =>
  obtain ⟨c, hc, h2⟩ := (Jfw _).1 e
  rcases L0t.1 hc with h | h
  . obtain ⟨x, _, rfl⟩ := L05.1 h; cases h2
  . simp at h; subst h; cases h2
theorem JBs (t : Tot) : (RP t).dn = false := by
 show (AV.dn (SL t.1) || (false || false)) = false
 rw [JBt]; rfl
def TotB (B : Int) (t : Tot) : Prop := t.1.length = 8 /\ (∀ n ∈ t.1, -B <= n /\ n <= B) /\ t.2.size = 32
theorem TotB.mono {B C : Int} {t : Tot} (h : TotB B t) (f : B <= C) : TotB C t := ⟨h.1, λ n g => by have := h.2.1 n g; omega, h.2.2⟩
def Jex (a b : Tot) : Tot := (JfJ a.1 b.1, JaW (Jcf a.1 a.2) (Jcf b.1 b.2))
theorem Jkf {B : Int} {s : List Int} (h : ∀ n ∈ s, -B <= n /\ n <= B) (f : 0 <= B) (j : Nat) : -B <= gd s j /\ gd s j <= B := by
 by_cases hj : j < s.length
 . exact h _ (Jaj s j hj)
 . rw [JlE s j (by omega)]; exact ⟨by show -B <= 0; omega, by show 0 <= B; omega⟩
theorem Jql {B C : Int} {s t : List Int} (h : ∀ n ∈ s, -B <= n /\ n <= B) (k : ∀ n ∈ t, -C <= n /\ n <= C) (f : 0 <= B) (g : 0 <= C) : ∀ n ∈ JfJ s t, -(B + C) <= n /\ n <= B + C := by
 intro n i
 obtain ⟨j, _, rfl⟩ := L05.1 i
 have m := Jkf h f j; have o := Jkf k g j
 omega
theorem JiZ {B C : Int} {a b : Tot} (i : TotB B a) (j : TotB C b) (f : 0 <= B) (g : 0 <= C) : TotB (B + C) (Jex a b) :=
 ⟨Jb9 _ _, Jql i.2.1 j.2.1 f g, Jbt _ _⟩
theorem JlJ {a b : Tot} (f : TotB 1000000000000000 a) (g : TotB 1000000000000000 b) : Ev prog 49 [TP a, TP b] (TP (Jex a b)) :=
 Jvf a.1 b.1 a.2 b.2 f.1 g.1 (λ n i => by have := f.2.1 n i; omega) (λ n i => by have := g.2.1 n i; omega) f.2.2 g.2.2
def Jks (f : ByteArray) (l : List Ch) : Tot := (JaO l, Juh f l)
theorem JmU (f : ByteArray) (l : List Ch) (j : f.size = 32) (g : ∀ c ∈ l, c.ok) (i : l.length <= 1000) : Ev prog 47 [Str f, CL l] (TP (Jks f l)) := Jts f l j g i
theorem JhJ (l : List Ch) : (JaO l).length = 8 := by
 have f : ∀ (l : List Ch) (s : List Int), (l.foldl Jgu s).length = s.length := by
  intro l
  induction l with
  | nil => intro s; rfl
  | cons c l g => intro s; rw [L1m, g, JdU]
 unfold JaO; rw [f]; rfl
theorem JmV (g : ByteArray) (l : List Ch) (m : ∀ c ∈ l, c.ok) (o : l.length <= 60) : TotB 120000000000 (Jks g l) := by
 refine ⟨JhJ l, λ n j => ?_, Ja4 _⟩
 have f := (Jcm l m l.length (L09 _)).2; rw [L04] at f
 obtain ⟨i, k, rfl⟩ := L1l.1 j
 have := f i
 rw [Jh4 _ _ (show i < (JaO l).length from k)] at this
 show _ <= (JaO l)[i] /\ (JaO l)[i] <= _
 omega
theorem Jt7 {l : List Ch} (g : ∀ c ∈ l, c.ok) (h : Int) : ∀ c ∈ ofF l h, c.ok := λ c f => g c (L2i.1 f).1
theorem JlV (l : List Ch) (h : Int) : (ofF l h).length <= l.length := L1u ..
def Jc0 : List Tot -> List Tot
 | a :: b :: l => Jex a b :: Jc0 l
 | _ => []
def Jhf (f : ByteArray) (l : List Ch) (h : Int) : Tot := Jks (JoA f h) (ofF l h)
def rowT (f : ByteArray) (l : List Ch) : Nat -> List Tot
 | 0 => (List.range 64).map λ h : Nat => Jhf f l (h : Int)
 | k + 1 => Jc0 (rowT f l k)
theorem Jc1 : ∀ (l : List Tot) (i : Nat), 2 * i + 1 < l.length -> gd (Jc0 l) i = Jex (gd l (2 * i)) (gd l (2 * i + 1))
 | [], i, h => by simp at h
 | [_], i, h => by simp at h
 | a :: b :: l, 0, _ => rfl
 | a :: b :: l, i + 1, h => by
  rw [Jc0, Jas, Jc1 l i (by simp at h; omega)]
  rw [show 2 * (i + 1) = 2 * i + 1 + 1 from by omega, show 2 * i + 1 + 1 + 1 = (2 * i + 1) + 1 + 1 from rfl]
  rw [Jas, Jas, Jas, Jas]
theorem JaR : ∀ (l : List Tot), (Jc0 l).length = l.length / 2
 | [] => rfl
 | [_] => by simp [Jc0]
 | a :: b :: l => by rw [Jc0, L0e, JaR l]; simp only [L0e]; omega
theorem JaV (f : ByteArray) (l : List Ch) : ∀ k, k <= 6 -> (rowT f l k).length = 2 ^ (6 - k)
 | 0, _ => by simp [rowT]
 | k + 1, h => by
  rw [rowT, JaR, JaV f l k (by omega)]
  have : k = 0 \/ k = 1 \/ k = 2 \/ k = 3 \/ k = 4 \/ k = 5 := by omega
  rcases this with rfl | rfl | rfl | rfl | rfl | rfl <;> rfl
theorem Jl7 (f : ByteArray) {l : List Ch} (j : ∀ c ∈ l, c.ok) (m : l.length <= 60) : ∀ k, k <= 6 -> ∀ i, i < 2 ^ (6 - k) -> TotB (120000000000 * 2 ^ k) (gd (rowT f l k) i)
 | 0, _, i, g => by
  have : gd (rowT f l 0) i = Jhf f l (i : Int) := by unfold rowT gd; simp at g; simp [g]
  rw [this, Int.pow_zero, Int.mul_one]
  exact JmV _ _ (Jt7 j _) (L0n (JlV l _) m)
 | k + 1, h, i, g => by
  have u : 2 ^ (6 - k) = 2 * 2 ^ (6 - (k + 1)) := by rw [show 6 - k = (6 - (k + 1)) + 1 from by omega, L10]; omega
  have n := JaV f l k (by omega)
  rw [rowT, Jc1 _ i (by omega)]
  have a := Jl7 f j m k (by omega) (2 * i) (by omega)
  have b := Jl7 f j m k (by omega) (2 * i + 1) (by omega)
  have o : (0 : Int) <= 120000000000 * 2 ^ k := L1f (by decide) (Int.pow_nonneg (by decide))
  have := JiZ a b o o
  rw [show (120000000000 : Int) * 2 ^ (k + 1) = 120000000000 * 2 ^ k + 120000000000 * 2 ^ k from by rw [Int.pow_succ]; omega]
  exact this
theorem Jnc (f : ByteArray) {l : List Ch} (m : ∀ c ∈ l, c.ok) (n : l.length <= 60) (k : Nat) (j : k <= 6) (i : Nat) (g : i < 2 ^ (6 - k)) : TotB 8000000000000 (gd (rowT f l k) i) := by
 refine (Jl7 f m n k j i g).mono ?_
 have : k = 0 \/ k = 1 \/ k = 2 \/ k = 3 \/ k = 4 \/ k = 5 \/ k = 6 := by omega
 rcases this with rfl | rfl | rfl | rfl | rfl | rfl | rfl <;> decide
theorem Jjn (f : ByteArray) {l : List Ch} (m : ∀ c ∈ l, c.ok) (n : l.length <= 60) (k : Nat) (j : k <= 6) : ∀ t ∈ rowT f l k, TotB 8000000000000 t := by
 intro t o
 obtain ⟨i, g, rfl⟩ := L1l.1 o
 have := Jnc f m n k j i (by rw [<- JaV f l k j]; exact g)
 rwa [Jh4 _ _ g] at this
def Jc8 (f : ByteArray) (l : List Ch) : Tot := gd (rowT f l 6) 0
def sibN (i : Nat) : Nat := if i % 2 = 0 then i + 1 else i - 1
def Jgs (f : ByteArray) (l : List Ch) (h : Nat) : List Tot := (List.range 6).map λ k => gd (rowT f l k) (sibN (h / 2 ^ k))
structure Acc where
 h : Int
 l : List Ch
 s : ByteArray
 p : List Tot
abbrev AP (a : Acc) : AV := .agg [I a.h, CL a.l, Str a.s, RPL a.p]
def JeJ (t : Tot) : Bool := decide (t.1.length = 8) && decide (t.2.size = 32) && decide (∀ n ∈ t.1, -1000000000000 <= n /\ n <= 1000000000000)
def Jnv (a : Acc) : Bool := inF a.h 0 63 && Jcp a.l && decide (∀ c ∈ a.l, c.h = a.h) && decide (a.s.size = 32) && decide (a.p.length = 6) && decide (∀ t ∈ a.p, JeJ t = true)
def Ji4 (h : Nat) (u t : Tot) : Tot := if h % 2 = 1 then Jex u t else Jex t u
def Jfr : Nat -> List Tot -> Tot -> Tot
 | _, [], t => t
 | h, u :: p, t => Jfr (h / 2) p (Ji4 h u t)
def JeU (f : Tot) (a : Acc) : Bool := Jnv a && decide (Jfr a.h.toNat a.p (Jks a.s a.l) = f)
def z0 : ByteArray := ⟨#[0]⟩
def z1 : ByteArray := ⟨#[1]⟩
def Coll (a b : List ByteArray) : Prop := ∃ x ∈ a, ∃ y ∈ b, x ≠ y /\ shaF x = shaF y
theorem Coll.mono {a b c d : List ByteArray} (h : Coll a b) (f : ∀ x ∈ a, x ∈ c) (g : ∀ x ∈ b, x ∈ d) : Coll c d := by
 obtain ⟨x, i, y, j, h⟩ := h; exact ⟨x, f x i, y, g y j, h⟩
theorem JrZ {a : Acc} (f : 0 <= a.h /\ a.h <= 63) (g : Jcp a.l = true) (i : ∀ c ∈ a.l, c.h = a.h) (h4 : a.s.size = 32) (j : a.p.length = 6) (k : ∀ t ∈ a.p, JeJ t = true) : Jnv a = true := by
 simp only [Jnv, inF, L00, decide_eq_true_eq]
 exact ⟨⟨⟨⟨⟨f, g⟩, i⟩, h4⟩, j⟩, k⟩
theorem JvP {B : Int} {h : Nat} {u t : Tot} (i : TotB 1000000000000 u) (g : TotB B t) (f : 0 <= B) : TotB (B + 1000000000000) (Ji4 h u t) := by
 unfold Ji4; split
 . exact (JiZ i g (by omega) f).mono (by omega)
 . exact JiZ g i f (by omega)
def ctr (j : Nat) (c : Ch) : Int := (if c.q.toNat = j then c.a else 0) - (if c.p.toNat = j then c.a else 0)
def sumJ (j : Nat) (l : List Ch) : Int := (l.map (ctr j)).sum
theorem Jdc (j : Nat) (c : Ch) (l : List Ch) : sumJ j (c :: l) = ctr j c + sumJ j l := by simp [sumJ]
theorem Jti {s : List Int} {c : Ch} (k : s.length = 8) (g : c.ok) (i : c.p ≠ c.q) {j : Nat} (m : j < 8) : gd (Jgu s c) j = gd s j + ctr j c := by
 obtain ⟨n, o, u, w, _⟩ := g
 have f : c.p.toNat ≠ c.q.toNat := by omega
 unfold Jgu
 rw [Jha _ _ _ _ (by rw [Jhu]; omega)]
 unfold payS
 rw [Jha _ _ _ _ (by omega), Jha _ _ _ _ (by omega)]
 unfold ctr
 by_cases e1 : j = c.q.toNat
 . subst e1
   simp [f, Ne.symm f]
 . by_cases e2 : j = c.p.toNat
   . subst e2
     simp [f, Ne.symm f]; omega
   . simp [e1, e2, Ne.symm e1, Ne.symm e2]
def Ch.good (c : Ch) : Prop := c.ok /\ c.p ≠ c.q
theorem Jpw {c : Ch} (h : chOK c = true) : c.good := by
 refine ⟨Jpx c h, ?_⟩
 simp only [chOK, L00, decide_eq_true_eq] at h; exact h.1.1.1.2
theorem Jp3 {c : Ch} (h : c.good) : chOK c = true := by
 obtain ⟨⟨g, i, j, k, m, n, o, u, w⟩, f⟩ := h
 simp only [chOK, inF, L00, decide_eq_true_eq]
 exact ⟨⟨⟨⟨⟨⟨g, i⟩, j, k⟩, f⟩, o, u⟩, m, n⟩, w⟩
theorem JnO {l : List Ch} (h : Jcp l = true) : l.length <= 60 /\ ∀ c ∈ l, c.good := by
 refine ⟨(JcY l h).1, λ c g => ?_⟩
 simp only [Jcp, L00, decide_eq_true_eq] at h
 obtain ⟨i, f, rfl⟩ := L1l.1 g
 have := h.2 i f
 rw [show gd l i = l[i] from by unfold gd; simp [f]] at this
 exact Jpw this
theorem Jn2 {l : List Ch} (g : l.length <= 60) (h : ∀ c ∈ l, c.good) : Jcp l = true := by
 simp only [Jcp, L00, decide_eq_true_eq]
 exact ⟨g, λ i f => Jp3 (h _ (Jaj l i f))⟩
theorem Jnl {l : List Ch} (n : ∀ c ∈ l, c.good) {j : Nat} (m : j < 8) : gd (JaO l) j = sumJ j l := by
 have f : ∀ (l : List Ch) (s : List Int), s.length = 8 -> (∀ c ∈ l, c.good) -> gd (l.foldl Jgu s) j = gd s j + sumJ j l := by
  intro l
  induction l with
  | nil => intro s _ _; simp [sumJ]
  | cons c l o =>
   intro s k i
   have g := i c (by simp)
   rw [L1m, o _ (by rw [JdU]; exact k) (λ c h => i c (by simp [h])), Jti k g.1 g.2 m, Jdc]; omega
 unfold JaO
 rw [f l _ (by simp) n]
 have : gd (List.replicate 8 (0 : Int)) j = 0 := by
  rcases j with _ | _ | _ | _ | _ | _ | _ | _ | j <;> first | rfl | omega
 rw [this]; omega
theorem JxV {c : Ch} (h : c.good) (j : Nat) : -1000000000 <= ctr j c /\ ctr j c <= 1000000000 := by
 obtain ⟨⟨_, _, _, _, f, g, _⟩, _⟩ := h
 unfold ctr; split <;> split <;> omega
theorem JvV {l : List Ch} (f : ∀ c ∈ l, c.good) (j : Nat) : -(1000000000 * (l.length : Int)) <= sumJ j l /\ sumJ j l <= 1000000000 * (l.length : Int) := by
 induction l with
 | nil => simp [sumJ]
 | cons c l i =>
  have k := JxV (f c (by simp)) j
  have m := i λ c g => f c (by simp [g])
  rw [Jdc, L0e]; push_cast; omega
def JcH (l : List Ch) (k i : Nat) : List Ch := l.filter λ c => c.h.toNat / 2 ^ k = i
theorem Jle (l : List Ch) (k i j : Nat) : sumJ j (JcH l (k + 1) i) = sumJ j (JcH l k (2 * i)) + sumJ j (JcH l k (2 * i + 1)) := by
 induction l with
 | nil => rfl
 | cons c l f =>
  have g : c.h.toNat / 2 ^ (k + 1) = c.h.toNat / 2 ^ k / 2 := by rw [L10, L2l]
  simp only [JcH, List.filter_cons, decide_eq_true_eq] at *; rw [g]; generalize c.h.toNat / 2 ^ k = x at *
  by_cases h1 : x = 2 * i
  . rw [if_pos (by omega), if_pos h1, if_neg (by omega), Jdc, Jdc, f]; omega
  . by_cases h2 : x = 2 * i + 1
    . rw [if_pos (by omega), if_neg h1, if_pos h2, Jdc, Jdc, f]; omega
    . rw [if_neg (by omega), if_neg h1, if_neg h2, f]
theorem Jew {l : List Ch} (i : ∀ c ∈ l, c.good) (f : Ch -> Bool) : ∀ c ∈ l.filter f, c.good := λ c g => i c ((L2i.1 g).1)
theorem JiY (s t : List Int) {j : Nat} (f : j < 8) : gd (JfJ s t) j = gd s j + gd t j := by unfold JfJ gd; simp [f]
theorem Jjp (f : ByteArray) {l : List Ch} (m : ∀ c ∈ l, c.good) {j : Nat} (g : j < 8) : ∀ k, k <= 6 -> ∀ i, i < 2 ^ (6 - k) -> gd (gd (rowT f l k) i).1 j = sumJ j (JcH l k i)
 | 0, _, i, n => by
  have : gd (rowT f l 0) i = Jhf f l (i : Int) := by unfold rowT gd; simp at n; simp [n]
  rw [this]
  show gd (JaO (ofF l i)) j = _
  unfold ofF JcH; rw [Jnl (Jew m _) g]
  congr 1
  refine List.filter_congr λ c u => ?_
  obtain ⟨⟨_, _, _, _, _, _, x, _⟩, _⟩ := m c u
  simp only [Nat.pow_zero, Nat.div_one, decide_eq_decide]
  omega
 | k + 1, h, i, n => by
  have w : 2 ^ (6 - k) = 2 * 2 ^ (6 - (k + 1)) := by rw [show 6 - k = (6 - (k + 1)) + 1 from by omega, L10]; omega
  have o := JaV f l k (by omega)
  rw [rowT, Jc1 _ i (by omega)]
  show gd (JfJ _ _) j = _
  rw [JiY _ _ g, Jjp f m g k (by omega) (2 * i) (by omega), Jjp f m g k (by omega) (2 * i + 1) (by omega), Jle]
theorem JgG (f : ByteArray) {l : List Ch} (n : ∀ c ∈ l, c.good) (o : l.length <= 60) {k : Nat} (m : k <= 6) {i : Nat} (j : i < 2 ^ (6 - k)) : (gd (rowT f l k) i).1.length = 8 /\ (gd (rowT f l k) i).2.size = 32 := by
 have := Jnc f (λ c g => (n c g).1) o k m i j
 exact ⟨this.1, this.2.2⟩
theorem JvG (f : ByteArray) {l : List Ch} (g : ∀ c ∈ l, c.good) (x : l.length <= 60) {k : Nat} (w : k <= 6) {i : Nat} (u : i < 2 ^ (6 - k)) : JeJ (gd (rowT f l k) i) = true := by
 obtain ⟨y, z⟩ := JgG f g x w u
 simp only [JeJ, L00, decide_eq_true_eq]
 refine ⟨⟨y, z⟩, λ n m => ?_⟩
 obtain ⟨j, A, rfl⟩ := L1l.1 m
 have e := Jjp f g (j := j) (by omega) k w i u
 rw [show gd (gd (rowT f l k) i).1 j = (gd (rowT f l k) i).1[j] from by rw [gd, L0X, L08 A]; rfl] at e
 rw [e]
 have o := JvV (Jew g λ c => decide (c.h.toNat / 2 ^ k = i)) j
 have B : (JcH l k i).length <= 60 := L0n (L1u ..) x
 show _ <= sumJ j (JcH l k i) /\ sumJ j (JcH l k i) <= _
 have o : -(1000000000 * ((JcH l k i).length : Int)) <= sumJ j (JcH l k i) /\ sumJ j (JcH l k i) <= 1000000000 * ((JcH l k i).length : Int) := o
 omega
theorem Jrh (f : ByteArray) {l : List Ch} (m : ∀ c ∈ l, c.good) (n : l.length <= 60) : (Jc8 f l).1 = JaO l := by
 refine Je1 (by rw [JhJ]; exact (JgG f m n (k := 6) (i := 0) (by omega) (by decide)).1) λ j g => ?_
 have g : j < 8 := by rw [show (Jc8 f l).1.length = 8 from (JgG f m n (k := 6) (i := 0) (by omega) (by decide)).1] at g; exact g
 unfold Jc8
 rw [Jjp f m g 6 (by omega) 0 (by decide), Jnl m g]
 congr 1
 unfold JcH; rw [L26]
 intro c o
 obtain ⟨⟨_, _, _, _, _, _, u, w, _⟩, _⟩ := m c o
 simp only [decide_eq_true_eq]
 omega
def ownA (f : ByteArray) (l : List Ch) (h : Nat) : Acc := ⟨h, ofF l h, JoA f h, Jgs f l h⟩
theorem Jk7 (f : ByteArray) (l : List Ch) (h : Nat) (g : h < 64) : ∀ n k, k + n = 6 ->
 Jfr (h / 2 ^ k) ((List.range' k n).map λ k => gd (rowT f l k) (sibN (h / 2 ^ k))) (gd (rowT f l k) (h / 2 ^ k)) = gd (rowT f l 6) 0
 | 0, k, o => by
  obtain rfl : k = 6 := by omega
  show gd (rowT f l 6) (h / 2 ^ 6) = _
  rw [show h / 2 ^ 6 = 0 from by omega]
 | n + 1, k, o => by
  rw [L1R, L0l, Jfr]
  have i : h / 2 ^ k / 2 = h / 2 ^ (k + 1) := by rw [L10, L2l]
  have u : h / 2 ^ k < 2 ^ (6 - k) := by
   rw [L1S (L21 k), <- Nat.pow_add, show 6 - k + k = 6 from by omega]; omega
  have j : Ji4 (h / 2 ^ k) (gd (rowT f l k) (sibN (h / 2 ^ k))) (gd (rowT f l k) (h / 2 ^ k)) = gd (rowT f l (k + 1)) (h / 2 ^ (k + 1)) := by
   have w : 2 ^ (6 - k) = 2 * 2 ^ (6 - (k + 1)) := by rw [show 6 - k = (6 - (k + 1)) + 1 from by omega, L10]; omega
   have m := JaV f l k (by omega)
   rw [rowT, Jc1 _ _ (by rw [<- i]; omega), <- i]
   generalize h / 2 ^ k = x at *; unfold Ji4 sibN
   by_cases hx : x % 2 = 1
   . rw [if_pos hx, if_neg (by omega), show 2 * (x / 2) = x - 1 from by omega, show x - 1 + 1 = x from by omega]
   . rw [if_neg hx, if_pos (by omega), show 2 * (x / 2) = x from by omega]
  rw [j, i]
  exact Jk7 f l h g n (k + 1) (by omega)
theorem Js2 (f : ByteArray) (l : List Ch) (h : Nat) (g : h < 64) : Jfr h (Jgs f l h) (Jhf f l h) = Jc8 f l := by
 have := Jk7 f l h g 6 0 rfl
 rw [Nat.pow_zero, Nat.div_one, <- L1H] at this
 rw [<- show gd (rowT f l 0) h = Jhf f l (h : Int) from by unfold rowT gd; simp [g]]
 exact this
theorem JyT (f : ByteArray) {l : List Ch} (i : ∀ c ∈ l, c.good) (j : l.length <= 60) (h : Nat) (m : h < 64) : Jnv (ownA f l h) = true := by
 refine JrZ (by show 0 <= (h : Int) /\ (h : Int) <= 63; omega) (Jn2 (L0n (JlV l _) j) (Jew i _)) (λ c n => ?_) (Jbt _ _) (by simp [ownA, Jgs]) (λ t u => ?_)
 . show c.h = (h : Int)
   simpa using (L2i.1 n).2
 . obtain ⟨k, g, rfl⟩ := L05.1 u
   have g := L1a.1 g
   refine JvG f i j (by omega) ?_
   have o : h / 2 ^ k < 2 ^ (6 - k) := by
    rw [L1S (L21 k), <- Nat.pow_add, show 6 - k + k = 6 from by omega]; omega
   have w : 2 ^ (6 - k) = 2 * 2 ^ (6 - (k + 1)) := by rw [show 6 - k = (6 - (k + 1)) + 1 from by omega, L10]; omega
   generalize 2 ^ (6 - (k + 1)) = M at *; generalize 2 ^ (6 - k) = N at *; generalize h / 2 ^ k = x at *
   unfold sibN; split <;> omega
theorem JkG (f : ByteArray) {l : List Ch} (i : ∀ c ∈ l, c.good) (j : l.length <= 60) (h : Nat) (g : h < 64) : JeU (Jc8 f l) (ownA f l h) = true := by
 simp only [JeU, L00, decide_eq_true_eq]
 exact ⟨JyT f i j h g, Js2 f l h g⟩
theorem Jfj (t : Tot) (h8 : t.1.length = 8) : Ev prog 42 [TP t] (RP t) := by
 obtain ⟨s, d⟩ := t
 have h8 : s.length = 8 := h8
 have ht : (s.map I ++ [Str d]).take 9 = s.map I ++ [Str d] := L03 (by simp [h8])
 refine EW [1] func42 ?_
 refine SA ?_
 refine Jh3 [90177552] ?_
 have h9 : (s.map I ++ [Str d])[8]? = some (Str d) := by rw [L0o (by simp [h8])]; simp [h8]
 have h88 : (s.map I ++ [Str d]).take 8 = s.map I := by
  rw [L1O (by simp [h8]), L03 (by simp [h8])]
 refine Jjl (Plain.mono) (λ D E σ => E 1 = .pt (TT s d) 0 /\ E 2 = .ptr 90177568 2 0 0 /\ (D 6 = false -> σ 90177568 = some ⟨66, 2, [.agg [.v (.slice none 0 0), .v (.string ByteArray.empty)]]⟩) /\ (D 6 = true -> σ 90177568 = some ⟨66, 2, [RP (s, d)]⟩) /\ (D 0 = true -> E 3 = .pt (TT s d) 0) /\ (D 1 = true -> E 4 = SL s) /\ (D 2 = true -> E 5 = SL s) /\ (D 3 = true -> E 6 = .pt (TT s d) 8) /\ (D 4 = true -> E 7 = Str d) /\ (D 5 = true -> E 8 = RP (s, d))) ?_ ?_ ?_
 . refine SA ?_
   simp
 . simp only [Jiy, and_true]
   refine ⟨?_, ?_, ?_, ?_, ?_, ?_, ?_⟩
   . rintro D hD hd E σ ⟨h1, h2, s6a, s6b, j0, j1, j2, j3, j4, j5⟩
     cases h6 : D 6
     . have g6 := s6a h6; refine SA ?_
       repeat' apply And.intro
       all_goals first | assumption | (intro h; rw [h6] at h; cases h; done) | (intro h; refine Jau ?_ (by first | rfl | exact SC); first | exact j0 h | exact j1 h | exact j2 h | exact j3 h | exact j4 h | exact j5 h) | (intro h; exact SC) | (intros; trivial)
     . have g6 := s6b h6; refine SA ?_
       repeat' apply And.intro
       all_goals first | assumption | (intro h; rw [h6] at h; cases h; done) | (intro h; refine Jau ?_ (by first | rfl | exact SC); first | exact j0 h | exact j1 h | exact j2 h | exact j3 h | exact j4 h | exact j5 h) | (intro h; exact SC) | (intros; trivial)
   . rintro D hD hd E σ ⟨h1, h2, s6a, s6b, j0, j1, j2, j3, j4, j5⟩
     have d0 : D 0 = true := hd ⟨0, .data⟩ (by simp) rfl
     have q0 := j0 d0
     cases h6 : D 6
     . have g6 := s6a h6; refine SA ?_
       refine JcA (c := TT s d) (j := 0) (m := 8) 0 8 (by simp -implicitDefEqProofs (disch := omega) only [go_sem, q0]) Jdt Jtv (by simp [h8]) ⟨rfl, rfl, by omega, by omega⟩ ?_ (JiJ s d)
       rw [show ((TT s d).cells.drop (0 + 0)).take (8 - 0) = s.map I from h88]
       refine SA ?_
       repeat' apply And.intro
       all_goals first | assumption | (intro h; rw [h6] at h; cases h; done) | (intro h; refine Jau ?_ (by first | rfl | exact SC); first | exact j0 h | exact j1 h | exact j2 h | exact j3 h | exact j4 h | exact j5 h) | (intro h; exact SC) | (intros; trivial)
     . have g6 := s6b h6; refine SA ?_
       refine JcA (c := TT s d) (j := 0) (m := 8) 0 8 (by simp -implicitDefEqProofs (disch := omega) only [go_sem, q0]) Jdt Jtv (by simp [h8]) ⟨rfl, rfl, by omega, by omega⟩ ?_ (JiJ s d)
       rw [show ((TT s d).cells.drop (0 + 0)).take (8 - 0) = s.map I from h88]
       refine SA ?_
       repeat' apply And.intro
       all_goals first | assumption | (intro h; rw [h6] at h; cases h; done) | (intro h; refine Jau ?_ (by first | rfl | exact SC); first | exact j0 h | exact j1 h | exact j2 h | exact j3 h | exact j4 h | exact j5 h) | (intro h; exact SC) | (intros; trivial)
   . rintro D hD hd E σ ⟨h1, h2, s6a, s6b, j0, j1, j2, j3, j4, j5⟩
     have d1 : D 1 = true := hd ⟨1, .data⟩ (by simp) rfl
     have q1 := j1 d1
     cases h6 : D 6
     . have g6 := s6a h6; refine SA ?_
       refine Jaa (Jmx s (by omega) (by omega)) ?_
       refine SA ?_
       repeat' apply And.intro
       all_goals first | assumption | (intro h; rw [h6] at h; cases h; done) | (intro h; refine Jau ?_ (by first | rfl | exact SC); first | exact j0 h | exact j1 h | exact j2 h | exact j3 h | exact j4 h | exact j5 h) | (intro h; exact SC) | (intros; trivial)
     . have g6 := s6b h6; refine SA ?_
       refine Jaa (Jmx s (by omega) (by omega)) ?_
       refine SA ?_
       repeat' apply And.intro
       all_goals first | assumption | (intro h; rw [h6] at h; cases h; done) | (intro h; refine Jau ?_ (by first | rfl | exact SC); first | exact j0 h | exact j1 h | exact j2 h | exact j3 h | exact j4 h | exact j5 h) | (intro h; exact SC) | (intros; trivial)
   . rintro D hD hd E σ ⟨h1, h2, s6a, s6b, j0, j1, j2, j3, j4, j5⟩
     cases h6 : D 6
     . have g6 := s6a h6; refine SA ?_
       repeat' apply And.intro
       all_goals first | assumption | (intro h; rw [h6] at h; cases h; done) | (intro h; refine Jau ?_ (by first | rfl | exact SC); first | exact j0 h | exact j1 h | exact j2 h | exact j3 h | exact j4 h | exact j5 h) | (intro h; exact SC) | (intros; trivial)
     . have g6 := s6b h6; refine SA ?_
       repeat' apply And.intro
       all_goals first | assumption | (intro h; rw [h6] at h; cases h; done) | (intro h; refine Jau ?_ (by first | rfl | exact SC); first | exact j0 h | exact j1 h | exact j2 h | exact j3 h | exact j4 h | exact j5 h) | (intro h; exact SC) | (intros; trivial)
   . rintro D hD hd E σ ⟨h1, h2, s6a, s6b, j0, j1, j2, j3, j4, j5⟩
     have d3 : D 3 = true := hd ⟨3, .data⟩ (by simp) rfl
     have q3 := j3 d3
     cases h6 : D 6
     . have g6 := s6a h6; refine SA ?_
       repeat' apply And.intro
       all_goals first | assumption | (intro h; rw [h6] at h; cases h; done) | (intro h; refine Jau ?_ (by first | rfl | exact SC); first | exact j0 h | exact j1 h | exact j2 h | exact j3 h | exact j4 h | exact j5 h) | (intro h; exact SC) | (intros; trivial)
     . have g6 := s6b h6; refine SA ?_
       repeat' apply And.intro
       all_goals first | assumption | (intro h; rw [h6] at h; cases h; done) | (intro h; refine Jau ?_ (by first | rfl | exact SC); first | exact j0 h | exact j1 h | exact j2 h | exact j3 h | exact j4 h | exact j5 h) | (intro h; exact SC) | (intros; trivial)
   . rintro D hD hd E σ ⟨h1, h2, s6a, s6b, j0, j1, j2, j3, j4, j5⟩
     have d2 : D 2 = true := hd ⟨2, .data⟩ (by simp) rfl
     have q2 := j2 d2
     have d4 : D 4 = true := hd ⟨4, .data⟩ (by simp) rfl
     have q4 := j4 d4
     cases h6 : D 6
     . have g6 := s6a h6; refine SA ?_
       repeat' apply And.intro
       all_goals first | assumption | (intro h; rw [h6] at h; cases h; done) | (intro h; refine Jau ?_ (by first | rfl | exact SC); first | exact j0 h | exact j1 h | exact j2 h | exact j3 h | exact j4 h | exact j5 h) | (intro h; exact SC) | (intros; trivial)
     . have g6 := s6b h6; refine SA ?_
       repeat' apply And.intro
       all_goals first | assumption | (intro h; rw [h6] at h; cases h; done) | (intro h; refine Jau ?_ (by first | rfl | exact SC); first | exact j0 h | exact j1 h | exact j2 h | exact j3 h | exact j4 h | exact j5 h) | (intro h; exact SC) | (intros; trivial)
   . rintro D hD hd E σ ⟨h1, h2, s6a, s6b, j0, j1, j2, j3, j4, j5⟩
     have d5 : D 5 = true := hd ⟨5, .data⟩ (by simp) rfl
     have q5 := j5 d5
     cases h6 : D 6
     . have g6 := s6a h6; refine SA ?_
       repeat' apply And.intro
       all_goals first | assumption | (intro h; rw [h6] at h; cases h; done) | (intro h; refine Jau ?_ (by first | rfl | exact SC); first | exact j0 h | exact j1 h | exact j2 h | exact j3 h | exact j4 h | exact j5 h) | (intro h; exact SC) | (intros; trivial)
     . rw [show D 6 = D (0 + 1 + 1 + 1 + 1 + 1 + 1) from rfl] at h6; rw [hD] at h6; cases h6
 . rintro D E σ hD ⟨h1, h2, s6a, s6b, j0, j1, j2, j3, j4, j5⟩
   have g6 := s6b (hD 6 (by decide))
   have q0 := j0 (hD 0 (by decide))
   have q1 := j1 (hD 1 (by decide))
   have q2 := j2 (hD 2 (by decide))
   have q3 := j3 (hD 3 (by decide))
   have q4 := j4 (hD 4 (by decide))
   have q5 := j5 (hD 5 (by decide))
   exact SB
abbrev YP (p : List Tot) : List AV := [TPL p]
def JqQ (l : List Tot) (i : Nat) : List Tot := (l.drop (2 * i)).take 2
def Jhy (l : List Tot) : Nat -> Nat -> List (List Tot)
 | _, 0 => []
 | i, n + 1 => JqQ l i :: Jhy l (i + 1) n
@[go_sem] theorem JcK (p : Nat -> Bool) (l : List (List Tot)) : AV.namesL p ((l.map YP).map .tup) = false := by
 rw [L19]; exact Jak p l _ λ _ => rfl
theorem Jox {b : List Tot} {i n : Nat} {x : List AV} {f : List (List AV)} (h : (Jhy b i n).map YP = x :: f) : ∃ m, n = m + 1 /\ x = YP (JqQ b i) /\ f = (Jhy b (i + 1) m).map YP := by
 cases n with
 | zero => cases h
 | succ m => simp only [Jhy, L0l, List.cons.injEq] at h; exact ⟨m, rfl, h.1.symm, h.2.symm⟩
theorem Jq6 {b : List Tot} {i n : Nat} (h : (Jhy b i n).map YP = []) : n = 0 := by
 cases n with
 | zero => rfl
 | succ m => simp [Jhy] at h
theorem JpE (b : List Tot) (k : Int) (f : 1 <= k) : Ev prog 77 [TPL b, I k] (.clo 121 [.pt (TPL b) 0, .pt (I k) 0]) := by
 refine Jch (r := .clo 121 [.nptr 129 1 [TPL b], .nptr 3 1 [I k]]) ?_ _
 refine EW [2] func77 ?_
 refine SA ?_
 refine Jab (λ h => absurd h (by omega)) (λ h => ?_)
 exact SB
theorem JnP (b : List Tot) (m : Nat) (D : b.length = 2 * m) (B : b.length <= 1000000000) (z : Jac) : SOK prog 121 [.pt (TPL b) 0, .pt (I 2) 0] z ((Jhy b 0 m).map YP) := by
 refine JkT func121 rfl (by kernel_rfl) mo (nb rfl) ?_ rfl λ l => ?_
 . exact JcK allB _
 . refine SA ?_
   refine Jaf (λ n E z => ∃ i : Nat, i + n = m /\ E 0 = .yld l /\ E 1 = .pt (TPL b) 0 /\ E 2 = .pt (I 2) 0 /\ E 4 = I ((2 * i : Nat) : Int) /\ E 31 = .tup (((Jhy b i n).map YP).map .tup)) m ⟨0, by omega, ?_⟩ ?_
   . refine SA ?_
     simp
   . rintro n E z ⟨i, C, o, j, u, w, f⟩
     refine SA ?_
     cases n with
     | zero =>
      refine Jam (by omega) ?_
      refine SA ?_
      exact .inl rfl
     | succ n =>
      have g : min (2 : Int) ((min (b.length - 2 * i) (b.length - 2 * i) : Nat) : Int) = 2 := by omega
      have y : ((2 * i : Nat) : Int) + 2 = ((2 * i + 2 : Nat) : Int) := by omega
      rw [Jhy] at f
      refine Ja0 (by omega) ?_
      simp -implicitDefEqProofs (disch := omega) only [go_sem, o, j, u, w, f, L01, L0g, g, y]
      refine JkS (sz := 9) (es := b.map TP) (2 * i) (2 * i + 2) (km := .i64) (by simp -implicitDefEqProofs (disch := omega) only [go_sem, j]) JvW Jv0 (by decide) SC (by simp)
       (Jbj (k := .i64) (n := ((2 * i + 2 : Nat) : Int)) SC (by omega) (Jbj (k := .i64) (n := ((2 * i : Nat) : Int)) SC (by omega) ⟨by omega, by omega, by omega, by rw [L0c]; omega⟩)) ?_
      have A : (b.drop (2 * i)).take (2 * i + 2 - 2 * i) = JqQ b i := by rw [show 2 * i + 2 - 2 * i = 2 from by omega]; rfl
      refine SA ?_
      have x : 2 * (i + 1) = 2 * i + 2 := by omega
      refine ⟨Jad n (by omega) ⟨i + 1, by omega, ?_⟩, ?_⟩
      . simp -implicitDefEqProofs (disch := omega) only [go_sem, o, j, u, w, f, g, y, A, x]
      . exact .inr trivial
theorem Js3 (l : List Tot) (i : Nat) (h : 2 * i + 1 < l.length) : JqQ l i = [gd l (2 * i), gd l (2 * i + 1)] := by
 refine L2b λ k => ?_
 unfold JqQ; rw [L0j]
 by_cases hk : k < 2
 . rw [if_pos hk, L0D]
   rcases (show k = 0 \/ k = 1 by omega) with rfl | rfl
   . rw [L0R, JaE l _ (by omega)]; rfl
   . rw [JaE l _ (by omega)]; rfl
 . rw [if_neg hk, L1b (by simp; omega)]
theorem JlW (l : List Tot) (i : Nat) (h : 2 * i + 1 < l.length) : Jc0 (l.take (2 * (i + 1))) = Jc0 (l.take (2 * i)) ++ [Jex (gd l (2 * i)) (gd l (2 * i + 1))] := by
 refine Je1 ?_ λ j f => ?_
 . rw [L0b, JaR, JaR, L01, L01, L18]; omega
 . rw [JaR, L01] at f
   rw [Jc1 _ _ (by rw [L01]; omega), JfB _ _ _ (by omega), JfB _ _ _ (by omega)]
   by_cases e : j < i
   . rw [JcR _ _ _ (by rw [JaR, L01]; omega), Jc1 _ _ (by rw [L01]; omega), JfB _ _ _ (by omega), JfB _ _ _ (by omega)]
   . obtain rfl : j = i := by omega
     rw [Jbl _ _ _ (by rw [JaR, L01]; omega), JaR, L01, show j - min (2 * j) l.length / 2 = 0 from by omega]; rfl
abbrev LP (f : ByteArray) (l : List Ch) : AV := .agg [Str f, CL l]
theorem Jrd (f : ByteArray) (l : List Ch) : Ev prog 41 [LP f l] (.clo 76 [.pt (LP f l) 0]) := by
 refine Jch (r := .clo 76 [.nptr 71 2 [LP f l]]) ?_ _
 refine EV func41 ?_
 refine SA ?_; simp -implicitDefEqProofs (disch := omega) only [go_sem, results41]
def Jc5 (f : ByteArray) (l : List Ch) : Nat -> Nat -> List (List Tot)
 | _, 0 => []
 | k, n + 1 => rowT f l k :: Jc5 f l (k + 1) n
theorem Jrb (f : ByteArray) (l : List Ch) (v : Nat) (g : v < 64) : (rowT f l 0).take (v + 1) = (rowT f l 0).take v ++ [Jhf f l v] := by
 rw [L0B, JaE _ v (by rw [JaV f l 0 (by omega)]; omega)]
 have : gd (rowT f l 0) v = Jhf f l (v : Int) := by unfold rowT gd; simp [g]
 rw [this]; rfl
theorem Jm7 (f : Jac) : only (inI []) f = stO [] := by
 funext id; rfl
set_option maxHeartbeats 4000000 in
theorem Jnd (f : ByteArray) (l : List Ch) (hk : f.size <= 1000) (hl : ∀ c ∈ l, c.ok) (hn : l.length <= 60) : SOK prog 76 [.pt (LP f l) 0] (stO []) ((Jc5 f l 0 7).map YP) := by
 refine Jro [6] func76 rfl (by kernel_rfl) mo (nb rfl) rfl ?_ rfl λ y => ?_
 . exact JcK allB _
 . refine SD ?_
   refine Jaf (λ n E D => ∃ v : Nat, v + n = 64 /\ E 0 = .yld y /\ E 1 = .pt (LP f l) 0 /\ E 7 = I v /\ E 45 = .tup (((Jc5 f l 0 7).map YP).map .tup) /\ E 3 = .own 161480752 9 0 v /\ D 161480752 = some ⟨125, 9, ((rowT f l 0).take v).map TP⟩) 64 ⟨0, by omega, ?_⟩ ?_
   . refine SD ?_
     simp
   . rintro n E D ⟨v, hv, u, w, G, j, F, B⟩
     simp -implicitDefEqProofs (disch := omega) only [go_sem, u, w, G, j]
     refine Jab (λ hc => ?_) (λ hc => ?_)
     . have ad : v < 64 := by omega
       have o := Jrb f l v ad; have ah := Jbt f (JaG (viS v))
       have A := JaV f l 0 (by omega)
       simp -implicitDefEqProofs (disch := omega) only [go_sem, u, w, G, j]
       refine Jaa (Jre f v (by omega) (by omega) (by omega)) ?_
       simp -implicitDefEqProofs (disch := omega) only [go_sem, u, w, G, j]
       refine Jaa (JyM l v (by omega)) ?_ (h4 := .inr (JxX _))
       simp -implicitDefEqProofs (disch := omega) only [go_sem, u, w, G, j]
       refine Jaa (JmU (JoA f v) (ofF l v) ah (Jt7 hl v) (L0n (JlV l v) (by omega))) ?_ (h4 := .inr (JxZ _))
       have ac : Jks (JoA f v) (ofF l v) = Jhf f l v := rfl
       rw [ac]
       have ab : (Jhf f l v).1.length = 8 := JhJ _
       generalize Jhf f l v = t at *; obtain ⟨s, d⟩ := t
       have V : ((rowT f l 0).take v).length = v := by rw [L01, A]; omega
       have S : ((rowT f l 0).take v).map TP ++ [TP (s, d)] = ((rowT f l 0).take (v + 1)).map TP := by rw [o]; simp
       have h8 : s.length = 8 := ab
       simp -implicitDefEqProofs (disch := omega) only [go_sem, u, w, G, j, F, B, V, h8]
       refine Jad (n - 1) (by omega) ⟨v + 1, by omega, ?_⟩
       rw [<- S]; simp -implicitDefEqProofs (disch := omega) only [go_sem, u, w, G, j, F, B, V, h8, L04]
       simp
     . have e : v = 64 := by omega
       subst e
       have o : (rowT f l 0).take 64 = rowT f l 0 := L03 (by rw [JaV f l 0 (by omega)]; omega)
       rw [o] at B; simp -implicitDefEqProofs (disch := omega) only [go_sem, u, w, G, j, F, B]
       refine Jaf (λ n E D => ∃ k x : Nat, k + n = 6 /\ (x = 161480752 \/ x = 161480785) /\ E 0 = .yld y /\ E 1 = .pt (LP f l) 0 /\ E 45 = .tup (((Jc5 f l k (n + 1)).map YP).map .tup) /\ E 3 = .own x 9 0 (2 ^ n) /\ D x = some ⟨125, 9, (rowT f l k).map TP⟩) 6 ⟨0, 161480752, by omega, .inl rfl, ?_⟩ ?_
       . simp -implicitDefEqProofs (disch := omega) only [go_sem, u, w, G, j, F, B]
       . clear u w G j F B hc o E D
         rintro n E D ⟨k, x, al, hx, u, w, j, F, B⟩
         have A := JaV f l k (by omega)
         rw [show 6 - k = n from by omega] at A
         have U := Jjn f hl hn k (by omega)
         have aj : 2 ^ n <= 64 := by
          have : 2 ^ n <= 2 ^ 6 := L2j (by omega) (by omega)
          simpa using this
         rw [Jc5] at j
         have o : (rowT f l k).take (2 ^ n) = rowT f l k := L03 (by omega)
         have H : ∀ (L : Nat -> Bool) (D : Jac), frz L (inL []) D (.tup (.tup (YP (rowT f l k)) :: ((Jc5 f l (k + 1) n).map YP).map .tup)) = .tup (.tup (YP (rowT f l k)) :: ((Jc5 f l (k + 1) n).map YP).map .tup) := λ L D => Jst (c := .tup (((rowT f l k :: Jc5 f l (k + 1) n).map YP).map .tup)) (JcK allB (rowT f l k :: Jc5 f l (k + 1) n)) L (inL []) D
         rcases hx with rfl | rfl
         all_goals
          simp -implicitDefEqProofs (disch := omega) only [go_sem, u, w, j, F, B]
          refine Jap (Jjt _ _ _ _ _) [161480752, 161480785] ?_
          simp -implicitDefEqProofs (disch := omega) only [go_sem, u, w, j, F, B, o, A, H]
          refine ⟨?_, .inr trivial⟩
          refine Jab (λ Y => ?_) (λ Y => ?_)
          . obtain ⟨m, rfl⟩ : ∃ m, n = m + 1 := ⟨n - 1, by
             have : n ≠ 0 := λ e => by subst e; simp at Y
             omega⟩
            have am : 2 ^ (m + 1) = 2 * 2 ^ m := by rw [L10]; omega
            simp -implicitDefEqProofs (disch := omega) only [go_sem, u, w, j, F, B, o, A, H]
            refine Jaa (JpE (rowT f l k) 2 (by omega)) ?_
            simp -implicitDefEqProofs (disch := omega) only [go_sem, u, w, j, F, B, o, A, H]
            refine JbG ?_
            refine JcN [] [161480784] 10092644 ((Jhy (rowT f l k) 0 (2 ^ m)).map YP) (λ xs D => ∃ i n : Nat, i + n = 2 ^ m /\ xs = (Jhy (rowT f l k) i n).map YP /\ D 161480784 = some ⟨129, 1, [.own 161480785 9 0 i]⟩ /\ D 161480785 = some ⟨125, 9, (Jc0 ((rowT f l k).take (2 * i))).map TP⟩)
             (g := 121) (caps := [.pt (TPL (rowT f l k)) 0, .pt (I 2) 0]) ?_ ?_ ?_ ?_ ?_ ?_ ?_ ?_
            . exact SC
            . exact JnP _ (2 ^ m) (by omega) (by omega) _
            . intro x hx
              obtain ⟨y, _, rfl⟩ := L05.1 hx
              rfl
            . exact SC
            . exact SC
            . refine ⟨0, 2 ^ m, by omega, rfl, ?_⟩
              refine SD ?_
              rfl
            . rintro M z y' ak ai ⟨i, n, aa, K, W, N⟩
              have P : M 5 = .ptr 161480784 1 0 0 := by rw [z]; exact SC
              clear z u w j F B
              obtain ⟨k', rfl, rfl, rfl⟩ := Jox K.symm
              rw [Js3 _ _ (by omega)]
              have t1 := U _ (Jaj (rowT f l k) (2 * i) (by omega))
              have t2 := U _ (Jaj (rowT f l k) (2 * i + 1) (by omega))
              have af := JlW (rowT f l k) i (by omega)
              have ae : (Jc0 ((rowT f l k).take (2 * i))).length = i := by rw [JaR, L01]; omega
              have J : (Jex (gd (rowT f l k) (2 * i)) (gd (rowT f l k) (2 * i + 1))).1.length = 8 := Jb9 _ _
              have hj := JlJ (t1.mono (C := 1000000000000000) (by omega)) (t2.mono (C := 1000000000000000) (by omega))
              generalize Jc0 ((rowT f l k).take (2 * i)) = q at *; generalize gd (rowT f l k) (2 * i) = a at *; generalize gd (rowT f l k) (2 * i + 1) = b at *; generalize Jex a b = c at *; obtain ⟨cs, cd⟩ := c
              have J : cs.length = 8 := J
              have ag : q.take i = q := L03 (by omega)
              have Q := t1.1; have T := t2.1
              have X : (a.1.map I ++ [Str a.2]).take 9 = a.1.map I ++ [Str a.2] := L03 (by simp [Q])
              have Z : (b.1.map I ++ [Str b.2]).take 9 = b.1.map I ++ [Str b.2] := L03 (by simp [T])
              simp -implicitDefEqProofs (disch := omega) only [go_sem, P, W, N, Q, T, X, Z]
              refine Jaa hj ?_ (h4 := .inr (JxZ _))
              simp -implicitDefEqProofs (disch := omega) only [go_sem, P, W, N, ae, J, ag]
              refine ⟨inL [], λ _ _ => rfl, i + 1, k', by omega, rfl, ?_⟩
              rw [af]; simp -implicitDefEqProofs (disch := omega) only [go_sem, Jdi]
            . rintro M z ai ⟨i, n, aa, K, W, N⟩
              have e0 : M 0 = .yld y := by rw [z]; simp -implicitDefEqProofs (disch := omega) only [go_sem, u]
              have P : M 5 = .ptr 161480784 1 0 0 := by rw [z]; exact SC
              have e1 : M 1 = .pt (LP f l) 0 := by rw [z]; simp -implicitDefEqProofs (disch := omega) only [go_sem, w]
              have O : M 45 = .tup (((Jc5 f l (k + 1) (m + 1)).map YP).map .tup) := by
               rw [z]; refine SD ?_
               exact JpU (inI [161480784]) (a := .tup (((Jc5 f l (k + 1) (m + 1)).map YP).map .tup)) (JcK allB _)
              have hn := Jq6 K.symm; subst hn
              obtain rfl : i = 2 ^ m := by omega
              have R : Jc0 ((rowT f l k).take (2 * 2 ^ m)) = rowT f l (k + 1) := by rw [L03 (by omega)]; rfl
              rw [R] at N; simp -implicitDefEqProofs (disch := omega) only [go_sem, e0, e1, P, O, W, N]
              refine Jad m (by omega) ⟨k + 1, 161480785, by omega, .inr rfl, ?_⟩
              simp -implicitDefEqProofs (disch := omega) only [go_sem, e0, e1, P, O, W, N]
          . obtain rfl : n = 0 := by
             rcases n with _ | n
             . rfl
             . exact absurd (show (1 : Int) < ((2 ^ (n + 1) : Nat) : Int) by rw [L10]; have := L21 n; omega) Y
            simp -implicitDefEqProofs (disch := omega) only [go_sem, u, w, j, F, B, o, A, H]
            exact .inl rfl
theorem Jir {g : ByteArray} {l : List Ch} {k n : Nat} {x : List AV} {f : List (List AV)} (h : (Jc5 g l k n).map YP = x :: f) : ∃ m, n = m + 1 /\ x = YP (rowT g l k) /\ f = (Jc5 g l (k + 1) m).map YP := by
 cases n with
 | zero => cases h
 | succ m => simp only [Jc5, L0l, List.cons.injEq] at h; exact ⟨m, rfl, h.1.symm, h.2.symm⟩
theorem JkL {f : ByteArray} {l : List Ch} {k n : Nat} (h : (Jc5 f l k n).map YP = []) : n = 0 := by
 cases n with
 | zero => rfl
 | succ m => simp [Jc5] at h
def Jn8 (f : ByteArray) (l : List Ch) : Bool := decide (f.size = 32) && Jcp l
theorem Jrg (f : ByteArray) (l : List Ch) (R : l.length <= 9223372036854775807) (h : Jn8 f l = true) : Ev prog 14 [LP f l] (.tup [RP (Jc8 f l), I 0]) := by
 have L := h; simp only [Jn8, L00, decide_eq_true_eq] at L; obtain ⟨X, Q⟩ := L
 obtain ⟨M, A⟩ := JcY l Q
 refine EV func14 ?_
 refine SA ?_; have N := Jdx f l R
 rw [show (decide (f.size = 32) && Jcp l) = true from h] at N
 refine Jaa N ?_
 refine SA ?_
 refine Jaa (Jrd f l) ?_
 refine SA ?_
 refine JbG ?_
 refine JcN [] [31457312, 31457344] 1966180 ((Jc5 f l 0 7).map YP) (λ W P => ∃ k n : Nat, k + n = 7 /\ W = (Jc5 f l k n).map YP /\ P 31457312 = some ⟨66, 2, [.agg [.v (.slice none 0 0), .v (.string ByteArray.empty)]]⟩ /\ ∃ t : Tot, t.1.length = 8 /\ P 31457344 = some ⟨125, 9, [TP t]⟩ /\ (0 < k -> t = gd (rowT f l (k - 1)) 0))
  (g := 76) (caps := [.pt (LP f l) 0]) ?_ ?_ ?_ ?_ ?_ ?_ ?_ ?_
 . exact SC
 . rw [Jm7]; exact Jnd f l (by omega) A M
 . intro x T
   obtain ⟨y, _, rfl⟩ := L05.1 T
   rfl
 . exact SC
 . exact SC
 . refine ⟨0, 7, by omega, rfl, ?_, (List.replicate 8 0, ⟨#[]⟩), by simp, ?_, by omega⟩
   . exact SC
   . refine SA ?_
     rfl
 . rintro C i Z O J ⟨k, n, F, w, B, t, j, E, m⟩
   have D : C 4 = .ptr 31457344 9 0 0 := by rw [i]; exact SC
   clear i
   obtain ⟨U, rfl, rfl, rfl⟩ := Jir w.symm
   have H := JaV f l k (by omega)
   have Y := L21 (6 - k)
   have V := Jjn f A M k (by omega) _ (Jaj (rowT f l k) 0 (by omega))
   have u := V.1; generalize z : gd (rowT f l k) 0 = a at *
   have o : (a.1.map I ++ [Str a.2]).take 9 = a.1.map I ++ [Str a.2] := L03 (by simp [u])
   refine SA ?_
   refine ⟨inL [], λ _ _ => rfl, k + 1, U, by omega, rfl, ?_, a, u, ?_, λ _ => by rw [L15]; exact z.symm⟩
   . simp -implicitDefEqProofs (disch := omega) only [go_sem, Jdi, B]
   . simp -implicitDefEqProofs (disch := omega) only [go_sem, Jdi, j]
 . rintro C i J ⟨k, n, F, w, B, t, j, E, m⟩
   have D : C 4 = .ptr 31457344 9 0 0 := by rw [i]; exact SC
   have K : C 2 = .ptr 31457312 2 0 0 := by rw [i]; exact SC
   clear i; have G := JkL w.symm; subst G
   obtain rfl : k = 7 := by omega
   have S : t = Jc8 f l := m (by omega)
   subst S
   have o : ((Jc8 f l).1.map I ++ [Str (Jc8 f l).2]).take 9 = (Jc8 f l).1.map I ++ [Str (Jc8 f l).2] := L03 (by simp [j])
   simp -implicitDefEqProofs (disch := omega) only [go_sem, D, E, B, K, j, o]
   refine Jaa (Jfj (Jc8 f l) j) ?_
   exact SB
theorem Jv5 (i : Nat) (h : i < 64) : Ja6 .xor .i64 (i : Int) 1 = (sibN i : Nat) := by
 have f : ∀ i : Fin 64, Ja6 .xor .i64 ((i.1 : Nat) : Int) 1 = ((sibN i.1 : Nat) : Int) := by decide +kernel
 exact f ⟨i, h⟩
def JfT (f : ByteArray) (l : List Ch) (h k : Nat) : List Tot := (List.range (min k 6)).map λ k => gd (rowT f l k) (sibN (h / 2 ^ k))
theorem Joo (f : ByteArray) (l : List Ch) (h k : Nat) (g : k < 6) : JfT f l h (k + 1) = JfT f l h k ++ [gd (rowT f l k) (sibN (h / 2 ^ k))] := by
 unfold JfT
 rw [show min (k + 1) 6 = min k 6 + 1 from by omega, L1d, L1c, show min k 6 = k from by omega]; rfl
theorem Jue {h k : Nat} (f : h < 64) (m : k < 6) : sibN (h / 2 ^ k) < 2 ^ (6 - k) /\ h / 2 ^ k < 64 := by
 have g : h / 2 ^ k < 2 ^ (6 - k) := by
  rw [L1S (L21 k), <- Nat.pow_add, show 6 - k + k = 6 from by omega]; omega
 have i : 2 ^ (6 - k) = 2 * 2 ^ (6 - (k + 1)) := by rw [show 6 - k = (6 - (k + 1)) + 1 from by omega, L10]; omega
 have j : h / 2 ^ k <= h := Nat.div_le_self _ _
 generalize 2 ^ (6 - (k + 1)) = M at *; generalize 2 ^ (6 - k) = N at *; generalize h / 2 ^ k = x at *
 refine ⟨?_, by omega⟩
 unfold sibN; split <;> omega
theorem Jgw (key : ByteArray) (l : List Ch) (h : Nat) (hl : l.length <= 9223372036854775807) (hled : Jn8 key l = true) (h63 : h < 64) : Ev prog 17 [LP key l, I h] (.tup [AP (ownA key l h), I 0]) := by
 have h' := hled; simp only [Jn8, L00, decide_eq_true_eq] at h'; obtain ⟨hk, hc⟩ := h'
 obtain ⟨hn, hok⟩ := JcY l hc
 refine EW [10] func17 ?_
 refine SD ?_; have hv := Jdx key l hl
 rw [show (decide (key.size = 32) && Jcp l) = true from hled] at hv
 refine Jaa hv ?_
 refine SD ?_; have hw := JbT h 0 63
 rw [show inF h 0 63 = true from by simp [inF]; omega] at hw
 refine Jaa hw ?_
 refine SD ?_
 refine Jaa (JyM l h (by omega)) ?_ (h4 := .inr (JxX _))
 refine SD ?_
 refine Jaa (Jre key h (by omega) (by omega) (by omega)) ?_
 refine SD ?_; generalize hof : ofF l h = own at *; generalize hsa : JoA key h = salt at *
 refine Jan rfl ?_
 refine Jd6 37748832 37748833 0 3 66 2 (k := ⟨77, 4, [.agg [I h, CL own, Str salt, .v (.slice none 0 0)]]⟩) (el := .agg [I h, CL own, Str salt, .v (.slice none 0 0)]) SC (by decide) rfl rfl (by simp) SC rfl ?_
 refine JCe ?_
 refine SD ?_
 refine Jaa (Jrd key l) ?_
 refine SD ?_
 refine JbG ?_
 refine JcN [] [37748800, 37748832, 37748848] 2359396 ((Jc5 key l 0 7).map YP) (λ xs σ => ∃ k n : Nat, k + n = 7 /\ xs = (Jc5 key l k n).map YP /\ σ 37748800 = some ⟨77, 4, [.agg [I 0, .v (.slice none 0 0), Str ByteArray.empty, .v (.slice none 0 0)]]⟩ /\ σ 37748848 = some ⟨3, 1, [I ((h / 2 ^ k : Nat) : Int)]⟩ /\ σ 37748832 = some ⟨77, 4, [.agg [I h, CL own, Str salt, .own 37748833 2 0 (JfT key l h k).length]]⟩ /\ σ 37748833 = some ⟨66, 2, (JfT key l h k).map RP⟩)
  (g := 76) (caps := [.pt (LP key l) 0]) ?_ ?_ ?_ ?_ ?_ ?_ ?_ ?_
 . exact SC
 . rw [Jm7]; exact Jnd key l (by omega) hok hn
 . intro x hx
   obtain ⟨y, _, rfl⟩ := L05.1 hx
   rfl
 . exact SC
 . exact SC
 . refine ⟨0, 7, by omega, rfl, ?_⟩
   refine SD ?_
   simp [JfT]
   rfl
 . rintro E0 hE0 y' rest σ' ⟨k, n, hin, hxs, s4, s7, s6, sP⟩
   have e6 : E0 6 = .ptr 37748832 4 0 0 := by rw [hE0]; exact SC
   have e7 : E0 7 = .ptr 37748848 1 0 0 := by rw [hE0]; exact SC
   clear hE0
   obtain ⟨k', rfl, rfl, rfl⟩ := Jir hxs.symm
   have hrl := JaV key l k (by omega)
   have hpl : (JfT key l h k).length <= 6 := by simp [JfT]; omega
   have hdiv : (((h / 2 ^ k : Nat) : Int)).tdiv 2 = ((h / 2 ^ (k + 1) : Nat) : Int) := by
    rw [L10, <- L2l, L1i (Int.natCast_nonneg _)]; generalize h / 2 ^ k = x
    omega
   have hdl : h / 2 ^ k <= h := Nat.div_le_self _ _
   have hdl2 : h / 2 ^ (k + 1) <= h := Nat.div_le_self _ _
   have hxs : k < 6 -> Ja6 .xor .i64 ((h / 2 ^ k : Nat) : Int) 1 = (sibN (h / 2 ^ k) : Nat) := λ hk => Jv5 _ (Jue h63 hk).2
   have hsl : k < 6 -> sibN (h / 2 ^ k) < 2 ^ (6 - k) := λ hk => (Jue h63 hk).1
   have hpn : k < 6 -> JfT key l h (k + 1) = JfT key l h k ++ [gd (rowT key l k) (sibN (h / 2 ^ k))] := Joo key l h k
   generalize hx : h / 2 ^ k = x at *; generalize hx1 : h / 2 ^ (k + 1) = x1 at *; simp -implicitDefEqProofs (disch := omega) only [go_sem, e6, e7, s6, s7, sP, hrl]
   refine Jab (λ hb => ?_) (λ hb => ?_)
   . have hk6 : k < 6 := by
      rcases L1t k 6 with h6 | h6
      . exact h6
      . obtain rfl : k = 6 := by omega
        simp at hb
     have hs1 := hsl hk6; have hxs := hxs hk6; have hpn := hpn hk6
     have hp64 : 2 ^ (6 - k) <= 64 := by
      have : 2 ^ (6 - k) <= 2 ^ 6 := L2j (by omega) (by omega)
      simpa using this
     have t1 := Jjn key hok hn k (by omega) _ (Jaj (rowT key l k) (sibN x) (by omega))
     have ha8 := t1.1; generalize hga : gd (rowT key l k) (sibN x) = a at *
     have ha9 : (a.1.map I ++ [Str a.2]).take 9 = a.1.map I ++ [Str a.2] := L03 (by simp [ha8])
     simp -implicitDefEqProofs (disch := omega) only [go_sem, e6, e7, s6, s7, sP, hrl, hxs, hga, ha8, ha9, hdiv]
     refine Jaa (Jfj a ha8) ?_ (h4 := .inr (JBs _))
     simp -implicitDefEqProofs (disch := omega) only [go_sem, e6, e7, s6, s7, sP, hrl, hxs, hga, ha8, ha9, hdiv, L04]
     refine ⟨inL [], λ _ _ => rfl, k + 1, k', by omega, rfl, ?_⟩
     rw [hpn, hx1]; simp -implicitDefEqProofs (disch := omega) only [go_sem, Jdi, s4, and_self, AV.namesB, AV.namesL]
   . obtain rfl : k = 6 := by
      rcases L1t k 6 with h6 | h6
      . have : 2 ^ 1 <= 2 ^ (6 - k) := L2j (by omega) (by omega)
        omega
      . omega
     simp -implicitDefEqProofs (disch := omega) only [go_sem, e6, e7, s6, s7, sP, hrl, hdiv]
     refine ⟨inL [], λ _ _ => rfl, 7, k', by omega, rfl, ?_⟩
     rw [show JfT key l h 7 = JfT key l h 6 from rfl, hx1]
     simp -implicitDefEqProofs (disch := omega) only [go_sem, Jdi, s4, s6, sP]
 . rintro E0 hE0 σ' ⟨k, n, hin, hxs, s4, s7, s6, sP⟩
   have e4 : E0 4 = .ptr 37748800 4 0 0 := by rw [hE0]; exact SC
   have e6 : E0 6 = .ptr 37748832 4 0 0 := by rw [hE0]; exact SC
   clear hE0; have hn0 := JkL hxs.symm; subst hn0
   obtain rfl : k = 7 := by omega
   have hpp : JfT key l h 7 = Jgs key l h := rfl
   rw [hpp] at s6 sP
   refine Jap Plain.mono [37748832, 37748833] ?_
   simp -implicitDefEqProofs (disch := omega) only [go_sem, e4, e6, s4, s6, sP, L04]
   rw [<- hof, <- hsa]; rfl
theorem JsD (n : Int) : Ev prog 88 [I n] (B (!inF n (-1000000000000) 1000000000000)) := by
 refine EV func88 ?_
 refine SA ?_
 refine Jaa (JbT n (-1000000000000) 1000000000000) ?_
 exact SB
def Jg7 (l : List Int) (v : Nat) : Nat -> Int
 | 0 => -1
 | n + 1 => if inF (gd l v) (-1000000000000) 1000000000000 then Jg7 l (v + 1) n else v
theorem Jj5 (l : List Int) : ∀ n v, v + n = l.length -> (Jg7 l v n < 0 ↔ ∀ i, v <= i -> i < l.length -> inF (gd l i) (-1000000000000) 1000000000000 = true)
 | 0, v, h => by simp only [Jg7]; constructor <;> intro _ <;> (try omega)
 | n + 1, v, h => by
  unfold Jg7
  split
  . rename_i hc
    rw [Jj5 l n (v + 1) (by omega)]
    constructor
    . intro hh i h1 h2
      rcases L1t v i with h3 | h3
      . exact hh i h3 h2
      . obtain rfl : i = v := by omega
        exact hc
    . intro hh i h1 h2; exact hh i (by omega) h2
  . rename_i hc
    constructor
    . intro hh; omega
    . intro hh; exact absurd (hh v (L09 _) (by omega)) hc
theorem Jqd (l : List Int) (x : l.length <= 1000000) : Ev prog 112 [SL l, .clo 88 []] (I (Jg7 l 0 l.length)) := by
 refine EV func112 ?_
 refine SA ?_
 refine Jaf (λ n E w => ∃ v : Nat, v + n = l.length /\ E 0 = SL l /\ E 1 = .clo 88 [] /\ E 7 = I l.length /\ E 8 = I v /\ Jg7 l 0 l.length = Jg7 l v n) l.length ⟨0, by omega, ?_⟩ ?_
 . refine SA ?_
   simp
 . rintro n E w ⟨v, y, g, i, j, k, f⟩
   simp -implicitDefEqProofs (disch := omega) only [go_sem, g, i, j, k]
   refine Jab (λ u => ?_) (λ u => ?_)
   . simp -implicitDefEqProofs (disch := omega) only [go_sem, g, i, j, k]
     refine Jaa (JsD _) ?_
     simp -implicitDefEqProofs (disch := omega) only [go_sem, g, i, j, k]
     obtain ⟨m, rfl⟩ : ∃ m, n = m + 1 := ⟨n - 1, by omega⟩
     refine Jab (λ o => ?_) (λ o => ?_)
     . simp -implicitDefEqProofs (disch := omega) only [go_sem, results112]
       rw [f]; simp [Jg7, o]
     . simp -implicitDefEqProofs (disch := omega) only [go_sem, g, i, j, k]
       refine Jad m (by omega) ⟨v + 1, by omega, ?_⟩
       simp -implicitDefEqProofs (disch := omega) only [go_sem, g, i, j, k]
       refine ⟨by simp, ?_⟩
       rw [f]; simp at o; simp [Jg7, o]
   . simp -implicitDefEqProofs (disch := omega) only [go_sem, results112]
     have : n = 0 := by omega
     subst this; rw [f]; rfl
def Jkq (l : List Int) : Bool := decide (0 <= Jg7 l 0 l.length)
theorem Jf9 (l : List Int) (f : l.length <= 1000000) : Ev prog 66 [SL l, .clo 88 []] (B (Jkq l)) := by
 refine EV func66 ?_
 refine SA ?_
 refine Jaa (Jqd l f) ?_
 refine SA ?_
 rfl
theorem Jn7 (l : List Int) : Jkq l = !decide (∀ n ∈ l, -1000000000000 <= n /\ n <= 1000000000000) := by
 have g := Jj5 l l.length 0 (by omega)
 unfold Jkq
 rw [<- decide_not]; apply decide_eq_decide.2
 have j : (∀ n ∈ l, -1000000000000 <= n /\ n <= 1000000000000) ↔ Jg7 l 0 l.length < 0 := by
  rw [g]
  constructor
  . intro h i _ f
    have := h _ (Jaj l i f)
    simp [inF, this]
  . intro h n k
    obtain ⟨i, f, rfl⟩ := L1l.1 k
    have := h i (L17 _) f
    rw [Jh4 l i f] at this
    simpa [inF] using this
 rw [j]; omega
theorem JrD (t : Tot) : JeJ t = (decide (t.1.length = 8) && (decide (t.2.size = 32) && !Jkq t.1)) := by
 unfold JeJ; rw [Jn7, Bool.not_not, L1o]
theorem Jot (t : Tot) (h : JeJ t = false) : Ev prog 48 [RP t] (.tup [TP (List.replicate 8 0, ⟨#[]⟩), B false]) := by
 refine EW [4] func48 ?_
 rw [JrD] at h; refine SA ?_
 refine Jab (λ k => ?_) (λ k => ?_)
 . refine SA ?_
   rfl
 . refine SA ?_
   refine Jab (λ g => ?_) (λ g => ?_)
   . refine SA ?_
     rfl
   . have i : t.1.length = 8 := by omega
     have f : t.2.size = 32 := by omega
     have m : Jkq t.1 = true := by simpa [i, f] using h
     have j := Jf9 t.1 (by omega)
     rw [m] at j; refine SA ?_
     refine Jaa j ?_
     refine SA ?_
     rfl
theorem Jq0 (t : Tot) (h : JeJ t = true) : Ev prog 48 [RP t] (.tup [TP t, B true]) := by
 refine EW [4] func48 ?_
 rw [JrD] at h; simp only [L00, decide_eq_true_eq, L0W] at h; obtain ⟨o, R, U⟩ := h
 have hc := Jf9 t.1 (by omega)
 rw [U] at hc; obtain ⟨s, d⟩ := t
 have o : s.length = 8 := o
 have R : d.size = 32 := R
 refine SA ?_
 refine Jam (by omega) ?_
 refine SA ?_
 refine Jam (by omega) ?_
 refine SA ?_
 refine Jaa hc ?_
 refine SA ?_
 have S : s.map I ≠ [] := by intro e; rw [L29] at e; subst e; simp at o
 have i : ∀ M N : ByteArray, List.take 8 (s.map I ++ [Str M]) ++ [Str N] ++ List.drop 9 (s.map I ++ [Str M]) = s.map I ++ [Str N] := λ M N => by
  rw [L1O (by simp [o]), L03 (by simp [o]), L2k (by simp [o])]; simp
 have f : ∀ N : ByteArray, (s.map I ++ [Str N]).take 9 = s.map I ++ [Str N] := λ N => L03 (by simp [o])
 have g : ((s.map I).take 8) = s.map I := L03 (by simp [o])
 refine Jjl (Plain.mono) (λ D E P => E 1 = .ptr 102760464 2 0 0 /\ E 2 = .ptr 102760480 9 0 0 /\ P 102760464 = some ⟨66, 2, [RP (s, d)]⟩ /\ (D 7 = false -> P 102760480 = some ⟨125, 9, [TP (List.replicate 8 0, ByteArray.empty)]⟩) /\ (D 7 = true -> P 102760480 = some ⟨125, 9, [TP (s, d)]⟩) /\ (D 0 = true -> E 22 = .ptr 102760464 2 0 0) /\ (D 1 = true -> E 23 = SL s) /\ (D 2 = true -> E 24 = .pt (.agg (s.map I)) 0) /\ (D 3 = true -> E 25 = .agg (s.map I)) /\ (D 4 = true -> E 26 = .ptr 102760464 2 0 1) /\ (D 5 = true -> E 27 = Str d) /\ (D 6 = true -> E 28 = TP (s, d)) /\ (D 8 = true -> E 3 = B true)) ?_ ?_ ?_
 . refine SA ?_
   simp
 . simp only [Jiy, and_true]
   refine ⟨?_, ?_, ?_, ?_, ?_, ?_, ?_, ?_, ?_⟩
   . rintro D L O E P ⟨u, w, J, k, n, y, z, A, C, F, G, H, K⟩
     cases h7 : D 7
     . have j := k h7; refine SA ?_
       repeat' apply And.intro
       all_goals first | assumption | (intro h; rw [h7] at h; cases h; done) | (intro h; refine Jau ?_ (by first | rfl | exact SC); first | exact y h | exact z h | exact A h | exact C h | exact F h | exact G h | exact H h | exact K h) | (intro h; exact SC) | (intros; trivial)
     . have j := n h7; refine SA ?_
       repeat' apply And.intro
       all_goals first | assumption | (intro h; rw [h7] at h; cases h; done) | (intro h; refine Jau ?_ (by first | rfl | exact SC); first | exact y h | exact z h | exact A h | exact C h | exact F h | exact G h | exact H h | exact K h) | (intro h; exact SC) | (intros; trivial)
   . rintro D L O E P ⟨u, w, J, k, n, y, z, A, C, F, G, H, K⟩
     have d0 : D 0 = true := O ⟨0, .data⟩ (by simp) rfl
     have V := y d0
     cases h7 : D 7
     . have j := k h7; refine SA ?_
       repeat' apply And.intro
       all_goals first | assumption | (intro h; rw [h7] at h; cases h; done) | (intro h; refine Jau ?_ (by first | rfl | exact SC); first | exact y h | exact z h | exact A h | exact C h | exact F h | exact G h | exact H h | exact K h) | (intro h; exact SC) | (intros; trivial)
     . have j := n h7; refine SA ?_
       repeat' apply And.intro
       all_goals first | assumption | (intro h; rw [h7] at h; cases h; done) | (intro h; refine Jau ?_ (by first | rfl | exact SC); first | exact y h | exact z h | exact A h | exact C h | exact F h | exact G h | exact H h | exact K h) | (intro h; exact SC) | (intros; trivial)
   . rintro D L O E P ⟨u, w, J, k, n, y, z, A, C, F, G, H, K⟩
     have d1 : D 1 = true := O ⟨1, .data⟩ (by simp) rfl
     have Q := z d1
     cases h7 : D 7
     . have j := k h7; refine SA ?_
       refine Jjz (es := s.map I) (m := 8) (by simp -implicitDefEqProofs (disch := omega) only [go_sem, Q]) Jdt (by simp [o]) S (λ a T => by obtain ⟨x, _, rfl⟩ := L05.1 T; rfl) ?_
       refine SA ?_
       repeat' apply And.intro
       all_goals first | assumption | (intro h; rw [h7] at h; cases h; done) | (intro h; refine Jau ?_ (by first | rfl | exact SC); first | exact y h | exact z h | exact A h | exact C h | exact F h | exact G h | exact H h | exact K h) | (intro h; exact SC) | (intros; trivial)
     . have j := n h7; refine SA ?_
       refine Jjz (es := s.map I) (m := 8) (by simp -implicitDefEqProofs (disch := omega) only [go_sem, Q]) Jdt (by simp [o]) S (λ a T => by obtain ⟨x, _, rfl⟩ := L05.1 T; rfl) ?_
       refine SA ?_
       repeat' apply And.intro
       all_goals first | assumption | (intro h; rw [h7] at h; cases h; done) | (intro h; refine Jau ?_ (by first | rfl | exact SC); first | exact y h | exact z h | exact A h | exact C h | exact F h | exact G h | exact H h | exact K h) | (intro h; exact SC) | (intros; trivial)
   . rintro D L O E P ⟨u, w, J, k, n, y, z, A, C, F, G, H, K⟩
     have d2 : D 2 = true := O ⟨2, .data⟩ (by simp) rfl
     have W := A d2
     cases h7 : D 7
     . have j := k h7; refine SA ?_
       repeat' apply And.intro
       all_goals first | assumption | (intro h; rw [h7] at h; cases h; done) | (intro h; refine Jau ?_ (by first | rfl | exact SC); first | exact y h | exact z h | exact A h | exact C h | exact F h | exact G h | exact H h | exact K h) | (intro h; exact SC) | (intros; trivial)
     . have j := n h7; refine SA ?_
       repeat' apply And.intro
       all_goals first | assumption | (intro h; rw [h7] at h; cases h; done) | (intro h; refine Jau ?_ (by first | rfl | exact SC); first | exact y h | exact z h | exact A h | exact C h | exact F h | exact G h | exact H h | exact K h) | (intro h; exact SC) | (intros; trivial)
   . rintro D L O E P ⟨u, w, J, k, n, y, z, A, C, F, G, H, K⟩
     cases h7 : D 7
     . have j := k h7; refine SA ?_
       repeat' apply And.intro
       all_goals first | assumption | (intro h; rw [h7] at h; cases h; done) | (intro h; refine Jau ?_ (by first | rfl | exact SC); first | exact y h | exact z h | exact A h | exact C h | exact F h | exact G h | exact H h | exact K h) | (intro h; exact SC) | (intros; trivial)
     . have j := n h7; refine SA ?_
       repeat' apply And.intro
       all_goals first | assumption | (intro h; rw [h7] at h; cases h; done) | (intro h; refine Jau ?_ (by first | rfl | exact SC); first | exact y h | exact z h | exact A h | exact C h | exact F h | exact G h | exact H h | exact K h) | (intro h; exact SC) | (intros; trivial)
   . rintro D L O E P ⟨u, w, J, k, n, y, z, A, C, F, G, H, K⟩
     have d4 : D 4 = true := O ⟨4, .data⟩ (by simp) rfl
     have Y := F d4
     cases h7 : D 7
     . have j := k h7; refine SA ?_
       repeat' apply And.intro
       all_goals first | assumption | (intro h; rw [h7] at h; cases h; done) | (intro h; refine Jau ?_ (by first | rfl | exact SC); first | exact y h | exact z h | exact A h | exact C h | exact F h | exact G h | exact H h | exact K h) | (intro h; exact SC) | (intros; trivial)
     . have j := n h7; refine SA ?_
       repeat' apply And.intro
       all_goals first | assumption | (intro h; rw [h7] at h; cases h; done) | (intro h; refine Jau ?_ (by first | rfl | exact SC); first | exact y h | exact z h | exact A h | exact C h | exact F h | exact G h | exact H h | exact K h) | (intro h; exact SC) | (intros; trivial)
   . rintro D L O E P ⟨u, w, J, k, n, y, z, A, C, F, G, H, K⟩
     have d3 : D 3 = true := O ⟨3, .data⟩ (by simp) rfl
     have X := C d3
     have d5 : D 5 = true := O ⟨5, .data⟩ (by simp) rfl
     have Z := G d5
     cases h7 : D 7
     . have j := k h7; refine SA ?_
       repeat' apply And.intro
       all_goals first | assumption | (intro h; rw [h7] at h; cases h; done) | (intro h; refine Jau ?_ (by first | rfl | exact SC); first | exact y h | exact z h | exact A h | exact C h | exact F h | exact G h | exact H h | exact K h) | (intro h; exact SC) | (intros; trivial)
     . have j := n h7; refine SA ?_
       repeat' apply And.intro
       all_goals first | assumption | (intro h; rw [h7] at h; cases h; done) | (intro h; refine Jau ?_ (by first | rfl | exact SC); first | exact y h | exact z h | exact A h | exact C h | exact F h | exact G h | exact H h | exact K h) | (intro h; exact SC) | (intros; trivial)
   . rintro D L O E P ⟨u, w, J, k, n, y, z, A, C, F, G, H, K⟩
     have d6 : D 6 = true := O ⟨6, .data⟩ (by simp) rfl
     have q6 := H d6
     cases h7 : D 7
     . have j := k h7; refine SA ?_
       repeat' apply And.intro
       all_goals first | assumption | (intro h; rw [h7] at h; cases h; done) | (intro h; refine Jau ?_ (by first | rfl | exact SC); first | exact y h | exact z h | exact A h | exact C h | exact F h | exact G h | exact H h | exact K h) | (intro h; exact SC) | (intros; trivial)
     . rw [show D 7 = D (0 + 1 + 1 + 1 + 1 + 1 + 1 + 1) from rfl] at h7; rw [L] at h7; cases h7
   . rintro D L O E P ⟨u, w, J, k, n, y, z, A, C, F, G, H, K⟩
     cases h7 : D 7
     . have j := k h7; refine SA ?_
       repeat' apply And.intro
       all_goals first | assumption | (intro h; rw [h7] at h; cases h; done) | (intro h; refine Jau ?_ (by first | rfl | exact SC); first | exact y h | exact z h | exact A h | exact C h | exact F h | exact G h | exact H h | exact K h) | (intro h; exact SC) | (intros; trivial)
     . have j := n h7; refine SA ?_
       repeat' apply And.intro
       all_goals first | assumption | (intro h; rw [h7] at h; cases h; done) | (intro h; refine Jau ?_ (by first | rfl | exact SC); first | exact y h | exact z h | exact A h | exact C h | exact F h | exact G h | exact H h | exact K h) | (intro h; exact SC) | (intros; trivial)
 . rintro D E P L ⟨u, w, J, k, n, y, z, A, C, F, G, H, K⟩
   have j := n (L 7 (by decide))
   have V := y (L 0 (by decide))
   have Q := z (L 1 (by decide))
   have W := A (L 2 (by decide))
   have X := C (L 3 (by decide))
   have Y := F (L 4 (by decide))
   have Z := G (L 5 (by decide))
   have q6 := H (L 6 (by decide))
   have q8 := K (L 8 (by decide))
   exact SB
theorem Jt2 (s : List Int) (d : ByteArray) (w : s.length = 8) (i : ∀ n ∈ s, R64 n) (R : d.size <= 1000000) : prog.keyLits 3 125 (s.map (Value.int .i64) ++ [.string d]) = some (s.map (Lit.int .i64) ++ [.string d.data.toList]) := by
 match s, w, i with
 | [J, K, L, M, N, O, P, Q], _, i =>
  have j : ∀ n ∈ [J, K, L, M, N, O, P, Q], (Lit.int .i64 n).wf = true := λ n y => by
   have := i n y
   have o : IntKind.i64.min = -9223372036854775808 := by decide
   have u : IntKind.i64.max = 9223372036854775807 := by decide
   simp [Lit.wf, o, u]; exact this
  simp only [L0q, List.not_mem_nil, or_false, forall_eq_or_imp, forall_eq] at j; obtain ⟨B, C, D, E, F, G, H, I⟩ := j
  have x : d.size <= maxLen := by have : (1000000 : Nat) <= maxLen := by decide +kernel
                                  omega
  have g : prog.cellsOf 125 = 9 := by kernel_rfl
  have f : prog.cellsOf 122 = 8 := by kernel_rfl
  have k : prog.cellsOf 3 = 1 := by kernel_rfl
  have m : prog.cellsOf 9 = 1 := by kernel_rfl
  have z : prog.underlying 3 = some (.int .i64) := by kernel_rfl
  have A : prog.underlying 9 = some .string := by kernel_rfl
  simp [Program.keyLits, Tryz.underlying125, Tryz.underlying122, z, A, g, f, k, m, B, C, D, E, F, G, H, I, x, L1d]
theorem JtW (s : List Int) (d : ByteArray) (g : s.length = 8) : (Value.agg (s.map (Value.int .i64) ++ [Value.string d]).toArray).formed prog 125 = true := by
 have f : prog.cellsOf 125 = 9 := by kernel_rfl
 simp [Value.formed, Tryz.underlying125, f, g]
theorem Jms {a b : ByteArray} (h : a.data.toList = b.data.toList) : a = b := by
 cases a; cases b; simp only [ByteArray.mk.injEq]; exact L12.1 h
theorem Joa (s : List Int) (d : ByteArray) (t : List Int) (e : ByteArray) : ((s, d) : Tot) = (t, e) ↔ s.map (Lit.int .i64) ++ [Lit.string d.data.toList] = t.map (Lit.int .i64) ++ [Lit.string e.data.toList] := by
 constructor
 . intro h; cases h; rfl
 . intro h
   obtain ⟨j, g⟩ := List.append_inj' h rfl
   have f : ∀ s t : List Int, s.map (Lit.int .i64) = t.map (Lit.int .i64) -> s = t := by
    intro s
    induction s with
    | nil => intro t h; cases t with | nil => rfl | cons _ _ => cases h
    | cons x s k => intro t h; cases t with | nil => cases h | cons y t => simp only [L0l, List.cons.injEq, Lit.int.injEq, true_and] at h; rw [h.1, k t h.2]
   have i : s = t := f s t j
   simp only [List.cons.injEq, Lit.string.injEq, and_true] at g; rw [i, Jms g]
theorem JsZ (a : Acc) (c : Ch) : Ev prog 45 [CH c, .pt (AP a) 0] (B (decide (c.h ≠ a.h))) := by
 refine EV func45 ?_
 refine SD ?_
 congr 2
 rw [L0Y]; simp
def Jg8 (h : Int) (l : List Ch) (v : Nat) : Nat -> Int
 | 0 => -1
 | n + 1 => if (gd l v).h = h then Jg8 h l (v + 1) n else v
theorem Jj6 (h : Int) (l : List Ch) : ∀ n v, v + n = l.length -> (Jg8 h l v n < 0 ↔ ∀ i, v <= i -> i < l.length -> (gd l i).h = h)
 | 0, v, _ => by simp only [Jg8]; constructor <;> intro _ <;> (try omega)
 | n + 1, v, hv => by
  unfold Jg8
  split
  . rename_i hc
    rw [Jj6 h l n (v + 1) (by omega)]
    constructor
    . intro hh i h1 h2
      rcases L1t v i with h3 | h3
      . exact hh i h3 h2
      . obtain rfl : i = v := by omega
        exact hc
    . intro hh i h1 h2; exact hh i (by omega) h2
  . rename_i hc
    constructor
    . intro hh; omega
    . intro hh; exact absurd (hh v (L09 _) (by omega)) hc
theorem Jqe (a : Acc) (l : List Ch) (x : l.length <= 1000000) : Ev prog 82 [CL l, .clo 45 [.pt (AP a) 0]] (I (Jg8 a.h l 0 l.length)) := by
 refine EV func82 ?_
 refine SA ?_
 refine Jaf (λ n E w => ∃ v : Nat, v + n = l.length /\ E 0 = CL l /\ E 1 = .clo 45 [.pt (AP a) 0] /\ E 7 = I l.length /\ E 8 = I v /\ Jg8 a.h l 0 l.length = Jg8 a.h l v n) l.length ⟨0, by omega, ?_⟩ ?_
 . refine SA ?_
   simp
 . rintro n E w ⟨v, y, g, i, j, k, f⟩
   simp -implicitDefEqProofs (disch := omega) only [go_sem, g, i, j, k]
   refine Jab (λ u => ?_) (λ u => ?_)
   . simp -implicitDefEqProofs (disch := omega) only [go_sem, g, i, j, k]
     refine Jaa (JsZ a _) ?_
     simp -implicitDefEqProofs (disch := omega) only [go_sem, g, i, j, k]
     obtain ⟨m, rfl⟩ : ∃ m, n = m + 1 := ⟨n - 1, by omega⟩
     refine Jab (λ o => ?_) (λ o => ?_)
     . simp -implicitDefEqProofs (disch := omega) only [go_sem, results82]
       rw [f]; simp [Jg8, o]
     . simp -implicitDefEqProofs (disch := omega) only [go_sem, g, i, j, k]
       refine Jad m (by omega) ⟨v + 1, by omega, ?_⟩
       simp -implicitDefEqProofs (disch := omega) only [go_sem, g, i, j, k]
       refine ⟨by simp, ?_⟩
       rw [f]; simp at o; simp [Jg8, o]
   . simp -implicitDefEqProofs (disch := omega) only [go_sem, results82]
     have : n = 0 := by omega
     subst this; rw [f]; rfl
theorem JjW (a : Acc) (l : List Ch) (m : l.length <= 1000000) : Ev prog 46 [CL l, .clo 45 [.pt (AP a) 0]] (B (!decide (∀ c ∈ l, c.h = a.h))) := by
 refine EV func46 ?_
 refine SA ?_
 refine Jaa (Jqe a l m) ?_
 refine SA ?_
 have g := Jj6 a.h l l.length 0 (by omega)
 have j : (∀ c ∈ l, c.h = a.h) ↔ Jg8 a.h l 0 l.length < 0 := by
  rw [g]
  constructor
  . intro h i _ f; exact h _ (Jaj l i f)
  . intro h c k
    obtain ⟨i, f, rfl⟩ := L1l.1 k
    have := h i (L17 _) f
    rwa [Jh4 l i f] at this
 rw [<- decide_not, decide_eq_decide.2 (show 0 <= Jg8 a.h l 0 l.length ↔ ¬ ∀ c ∈ l, c.h = a.h by rw [j]; omega)]
def JvA (a : Acc) : Bool := inF a.h 0 63 && (Jcp a.l && (decide (∀ c ∈ a.l, c.h = a.h) && (decide (a.s.size = 32) && decide (a.p.length = 6))))
theorem JoW (a : Acc) : Jnv a = (JvA a && decide (∀ t ∈ a.p, JeJ t = true)) := by
 unfold Jnv JvA; simp only [L1o]
theorem JeV (t : Tot) (a : Acc) (hl : a.l.length <= 9223372036854775807) (hp : a.p.length <= 9223372036854775807) (ht : t.1.length <= 9223372036854775807) (htr : ∀ n ∈ t.1, R64 n) (htd : t.2.size <= 1000000) : Ev prog 19 [RP t, AP a] (B (JeU t a)) := by
 refine EW [17] func19 ?_
 unfold JeU; rw [JoW]
 have hpre : JvA a = (inF a.h 0 63 && (Jcp a.l && (decide (∀ c ∈ a.l, c.h = a.h) && (decide (a.s.size = 32) && decide (a.p.length = 6))))) := rfl
 refine SD ?_
 refine Jan rfl ?_
 refine JcZ [41943072, 41943088] ?_
 refine SD ?_
 refine Jaa (JbT a.h 0 63) ?_
 cases hin : inF a.h 0 63
 . rw [hpre, hin]; simp -implicitDefEqProofs (disch := omega) only [go_sem, results19]
 refine SD ?_
 refine Jaa (Jcg a.l hl) ?_
 cases hcs : Jcp a.l
 . rw [hpre, hin, hcs]; simp -implicitDefEqProofs (disch := omega) only [go_sem, results19]
 obtain ⟨hn, hok⟩ := JcY _ hcs
 refine SD ?_
 refine Jaa (JjW a a.l (by omega)) ?_
 cases hot : decide (∀ c ∈ a.l, c.h = a.h)
 . rw [hpre, hin, hcs, hot]; simp -implicitDefEqProofs (disch := omega) only [go_sem, results19]
 refine SD ?_
 refine Jab (λ h32 => ?_) (λ h32 => ?_)
 . have : ¬ a.s.size = 32 := by omega
   rw [hpre, hin, hcs, hot, decide_eq_false this]; simp -implicitDefEqProofs (disch := omega) only [go_sem, results19]
 have h32 : a.s.size = 32 := by omega
 refine SD ?_
 refine Jab (λ h6 => ?_) (λ h6 => ?_)
 . have : ¬ a.p.length = 6 := by omega
   rw [hpre, hin, hcs, hot, decide_eq_true h32, decide_eq_false this]; simp -implicitDefEqProofs (disch := omega) only [go_sem, results19]
 have h6 : a.p.length = 6 := by omega
 rw [hpre, hin, hcs, hot, decide_eq_true h32, decide_eq_true h6]; simp only [L0d]; refine SD ?_
 refine Jaa (JmU a.s a.l h32 hok (by omega)) ?_
 have hlf := JmV a.s a.l hok hn; generalize Jks a.s a.l = lf at *; have hlf8 := hlf.1
 obtain ⟨k, hk⟩ : ∃ k : Nat, a.h = k := ⟨a.h.toNat, by simp [inF] at hin; omega⟩
 have hk63 : k < 64 := by simp [inF] at hin; omega
 have hkt : a.h.toNat = k := by omega
 rw [hkt]
 have hl9 : (lf.1.map I ++ [Str lf.2]).take 9 = lf.1.map I ++ [Str lf.2] := L03 (by simp [hlf8])
 simp -implicitDefEqProofs (disch := omega) only [go_sem, hlf8, hl9, hk, h6]
 refine Jaf (λ n E σ => ∃ (v : Nat) (u : Tot), v + n = 6 /\ TotB (120000000000 + 1000000000000 * v) u /\ Jfr k a.p lf = Jfr (k / 2 ^ v) (a.p.drop v) u /\ (∀ i, i < v -> JeJ (gd a.p i) = true) /\ E 2 = .pt (RP t) 0 /\ E 3 = .pt (AP a) 0 /\ E 6 = .ptr 41943136 9 0 0 /\ E 46 = RPL a.p /\ E 47 = I 6 /\ E 48 = I v /\ σ 41943136 = some ⟨125, 9, [TP u]⟩) 6 ⟨0, lf, by omega, hlf.mono (by omega), by simp, by simp, ?_⟩ ?_
 . simp -implicitDefEqProofs (disch := omega) only [go_sem, hlf8, hl9, hk, h6]
   simp [hk]
 . rintro n E σ ⟨v, u, hv, hu, hwk, hall, h2, h3, h6', h46, h47, h48, s6⟩
   have hu8 := hu.1; simp -implicitDefEqProofs (disch := omega) only [go_sem, h2, h3, h6', h46, h47, h48, s6]
   refine Jab (λ hc => ?_) (λ hc => ?_)
   . have hv6 : v < 6 := by omega
     simp -implicitDefEqProofs (disch := omega) only [go_sem, h2, h3, h6', h46, h47, h48, s6, h6]
     cases htv : JeJ (gd a.p v)
     . refine Jaa (Jot (gd a.p v) htv) ?_
       simp -implicitDefEqProofs (disch := omega) only [go_sem, h2, h3, h6', h46, h47, h48, s6, h6]
       have hrep : (List.replicate 8 (0 : Int)).length = 8 := rfl
       have hr9 : ((List.replicate 8 (0 : Int)).map I ++ [Str ⟨#[]⟩]).take 9 = (List.replicate 8 0).map I ++ [Str ⟨#[]⟩] := rfl
       simp -implicitDefEqProofs (disch := omega) only [go_sem, h2, h3, h6', h46, h47, h48, s6, h6, hrep, hr9, results19]
       have : decide (∀ t ∈ a.p, JeJ t = true) = false := by
        rw [decide_eq_false_iff_not]; intro hh
        have := hh _ (Jaj a.p v (by omega))
        rw [htv] at this; cases this
       rw [this]; rfl
     . refine Jaa (Jq0 (gd a.p v) htv) ?_
       have hg : TotB 1000000000000 (gd a.p v) := by
        simp only [JeJ, L00, decide_eq_true_eq] at htv
        exact ⟨htv.1.1, htv.2, htv.1.2⟩
       have hgv := L23 (show v < a.p.length by omega)
       rw [<- Jh4 a.p v (by omega)] at hgv
       rw [hgv, Jfr] at hwk
       have hdd : k / 2 ^ v / 2 = k / 2 ^ (v + 1) := by rw [L10, L2l]
       rw [hdd] at hwk
       have hst := JvP (h := k / 2 ^ v) hg hu (by omega)
       have hnx : ∀ i, i < v + 1 -> JeJ (gd a.p i) = true := λ i hi => by
        by_cases e : i = v
        . subst e; exact htv
        . exact hall i (by omega)
       generalize hgq : gd a.p v = g at *; have hg8 := hg.1
       have hg9 : (g.1.map I ++ [Str g.2]).take 9 = g.1.map I ++ [Str g.2] := L03 (by simp [hg8])
       have hu9 : (u.1.map I ++ [Str u.2]).take 9 = u.1.map I ++ [Str u.2] := L03 (by simp [hu8])
       have hj1 := JlJ (hg.mono (C := 1000000000000000) (by omega)) (hu.mono (C := 1000000000000000) (by omega))
       have hj2 := JlJ (hu.mono (C := 1000000000000000) (by omega)) (hg.mono (C := 1000000000000000) (by omega))
       have hl1 : (Jex g u).1.length = 8 := Jb9 _ _
       have hl2 : (Jex u g).1.length = 8 := Jb9 _ _
       have hsh : ((k : Int).fdiv (2 ^ min v 64)).tmod 2 = ((k / 2 ^ v % 2 : Nat) : Int) := by
        rw [show min v 64 = v from by omega, L1D _ (Int.pow_nonneg (by decide)), L0Z (L1j (by omega) (Int.pow_nonneg (by decide)))]
        push_cast; rfl
       simp -implicitDefEqProofs (disch := omega) only [go_sem, h2, h3, h6', h46, h47, h48, s6, h6, hg8, hg9, hk, hsh]; generalize k / 2 ^ v = x at *
       refine Jab (λ hb => ?_) (λ hb => ?_)
       . have hx : x % 2 = 1 := by omega
         rw [show Ji4 x g u = Jex g u from if_pos hx] at hwk hst
         simp -implicitDefEqProofs (disch := omega) only [go_sem, h2, h3, h6', h46, h47, h48, s6, h6, hg8, hg9, hu8, hu9, hk]
         refine Jaa hj1 ?_
         simp -implicitDefEqProofs (disch := omega) only [go_sem, h2, h3, h6', h46, h47, h48, s6, h6, hl1, hu8, hk]
         refine Jad (n - 1) (by omega) ⟨v + 1, Jex g u, by omega, hst.mono (by push_cast; omega), hwk, hnx, ?_⟩
         simp -implicitDefEqProofs (disch := omega) only [go_sem, h2, h3, h6', h46, h47, h48, s6, h6, hl1, hu8, hk]
         simp
       . have hx : ¬ x % 2 = 1 := by omega
         rw [show Ji4 x g u = Jex u g from if_neg hx] at hwk hst
         simp -implicitDefEqProofs (disch := omega) only [go_sem, h2, h3, h6', h46, h47, h48, s6, h6, hg8, hg9, hu8, hu9, hk]
         refine Jaa hj2 ?_
         simp -implicitDefEqProofs (disch := omega) only [go_sem, h2, h3, h6', h46, h47, h48, s6, h6, hl2, hu8, hk]
         refine Jad (n - 1) (by omega) ⟨v + 1, Jex u g, by omega, hst.mono (by push_cast; omega), hwk, hnx, ?_⟩
         simp -implicitDefEqProofs (disch := omega) only [go_sem, h2, h3, h6', h46, h47, h48, s6, h6, hl2, hu8, hk]
         simp
   . obtain rfl : v = 6 := by omega
     have hall' : decide (∀ t ∈ a.p, JeJ t = true) = true := by
      rw [decide_eq_true_iff]; intro t ht
      obtain ⟨i, hi, rfl⟩ := L1l.1 ht
      rw [<- Jh4 a.p i hi]; exact hall i (by omega)
     rw [hall', L0d, hwk, L2k (by omega)]
     show awpC _ _ _ _ _
     simp -implicitDefEqProofs (disch := omega) only [go_sem, h2, h3, h6', h46, h47, h48, s6, h6]
     refine Jab (λ h8 => ?_) (λ h8 => ?_)
     . simp -implicitDefEqProofs (disch := omega) only [go_sem, h2, h3, h6', h46, h47, h48, s6, h6, results19]
       have : ¬ Jfr (k / 2 ^ 6) [] u = t := by
        rw [Jfr]; intro e; rw [e] at hu8; omega
       rw [decide_eq_false this]
     . rw [Jfr]; simp -implicitDefEqProofs (disch := omega) only [go_sem, h2, h3, h6', h46, h47, h48, s6, h6]; clear hc hall hall' hwk h3 h46 h47 h48 hlf8 hl9 hlf hpre hin hcs hn hok hot h32 hk hk63 hkt
       have h8 : t.1.length = 8 := by omega
       obtain ⟨s, d⟩ := t
       have h8 : s.length = 8 := h8
       have hur : ∀ n ∈ u.1, R64 n := λ n hn => by have := hu.2.1 n hn; unfold R64; omega
       have hud : u.2.size <= 1000000 := by have := hu.2.2; omega
       have hsr : ∀ n ∈ s, R64 n := htr
       have hsd : d.size <= 1000000 := htd
       have hne : s.map I ≠ [] := by intro e; rw [L29] at e; subst e; simp at h8
       have h88 : ((s.map I).take 8) = s.map I := L03 (by simp [h8])
       have hTT : ∀ M N : ByteArray, List.take 8 (s.map I ++ [Str M]) ++ [Str N] ++ List.drop 9 (s.map I ++ [Str M]) = s.map I ++ [Str N] := λ M N => by
        rw [L1O (by simp [h8]), L03 (by simp [h8]), L2k (by simp [h8])]; simp
       have hu9 : (u.1.map I ++ [Str u.2]).take 9 = u.1.map I ++ [Str u.2] := L03 (by simp [hu8])
       refine JkH (Plain.mono) (λ D E σ => E 2 = .pt (RP (s, d)) 0 /\ E 6 = .ptr 41943136 9 0 0 /\ σ 41943136 = some ⟨125, 9, [TP u]⟩ /\ (D 0 = true -> E 79 = TP u) /\ (D 1 = true -> E 80 = .pt (RP (s, d)) 0) /\ (D 2 = true -> E 81 = SL s) /\ (D 3 = true -> E 82 = .pt (.agg (s.map I)) 0) /\ (D 4 = true -> E 83 = .agg (s.map I)) /\ (D 5 = true -> E 84 = .pt (RP (s, d)) 1) /\ (D 6 = true -> E 85 = Str d) /\ (D 7 = true -> E 86 = TP (s, d)) /\ (D 8 = true -> E 87 = B (decide (u = (s, d)))) /\ (D 9 = true -> E 4 = B (decide (u = (s, d))))) 8 ?_ ?_ ?_ ?_
       . simp -implicitDefEqProofs (disch := omega) only [go_sem, h8, h88, hTT, hu9, hu8]
         exact ⟨h2, h6', s6, by simp⟩
       . simp only [JhG, and_true]
         refine ⟨?_, ?_, ?_, ?_, ?_, ?_, ?_, ?_, ?_, ?_⟩
         . intro _; rintro D hD hd E σ ⟨h2, h6, s6, j0, j1, j2, j3, j4, j5, j6, j7, j8, j9⟩
           simp -implicitDefEqProofs (disch := omega) only [go_sem, h2, h6, s6, h8, h88, hTT, hu9, hu8]
           repeat' apply And.intro
           all_goals first | assumption | (intro h; refine Jau ?_ (by first | rfl | exact SC); first | exact j0 h | exact j1 h | exact j2 h | exact j3 h | exact j4 h | exact j5 h | exact j6 h | exact j7 h | exact j8 h | exact j9 h) | (intro h; exact SC) | (intros; trivial)
         . intro _; rintro D hD hd E σ ⟨h2, h6, s6, j0, j1, j2, j3, j4, j5, j6, j7, j8, j9⟩
           simp -implicitDefEqProofs (disch := omega) only [go_sem, h2, h6, s6, h8, h88, hTT, hu9, hu8]
           repeat' apply And.intro
           all_goals first | assumption | (intro h; refine Jau ?_ (by first | rfl | exact SC); first | exact j0 h | exact j1 h | exact j2 h | exact j3 h | exact j4 h | exact j5 h | exact j6 h | exact j7 h | exact j8 h | exact j9 h) | (intro h; exact SC) | (intros; trivial)
         . intro _; rintro D hD hd E σ ⟨h2, h6, s6, j0, j1, j2, j3, j4, j5, j6, j7, j8, j9⟩
           have d1 : D 1 = true := hd ⟨1, .data⟩ (by simp) rfl
           have q1 := j1 d1; simp -implicitDefEqProofs (disch := omega) only [go_sem, h2, h6, s6, q1, h8, h88, hTT, hu9, hu8]
           repeat' apply And.intro
           all_goals first | assumption | (intro h; refine Jau ?_ (by first | rfl | exact SC); first | exact j0 h | exact j1 h | exact j2 h | exact j3 h | exact j4 h | exact j5 h | exact j6 h | exact j7 h | exact j8 h | exact j9 h) | (intro h; exact SC) | (intros; trivial)
         . intro _; rintro D hD hd E σ ⟨h2, h6, s6, j0, j1, j2, j3, j4, j5, j6, j7, j8, j9⟩
           have d2 : D 2 = true := hd ⟨2, .data⟩ (by simp) rfl
           have q2 := j2 d2; simp -implicitDefEqProofs (disch := omega) only [go_sem, h2, h6, s6, q2, h8, h88, hTT, hu9, hu8]
           refine Jjz (es := s.map I) (m := 8) (by simp -implicitDefEqProofs (disch := omega) only [go_sem, q2]) Jdt (by simp [h8]) hne (λ a ha => by obtain ⟨x, _, rfl⟩ := L05.1 ha; rfl) ?_
           simp -implicitDefEqProofs (disch := omega) only [go_sem, h2, h6, s6, q2, h8, h88, hTT, hu9, hu8]
           repeat' apply And.intro
           all_goals first | assumption | (intro h; refine Jau ?_ (by first | rfl | exact SC); first | exact j0 h | exact j1 h | exact j2 h | exact j3 h | exact j4 h | exact j5 h | exact j6 h | exact j7 h | exact j8 h | exact j9 h) | (intro h; exact SC) | (intros; trivial)
         . intro _; rintro D hD hd E σ ⟨h2, h6, s6, j0, j1, j2, j3, j4, j5, j6, j7, j8, j9⟩
           have d3 : D 3 = true := hd ⟨3, .data⟩ (by simp) rfl
           have q3 := j3 d3; simp -implicitDefEqProofs (disch := omega) only [go_sem, h2, h6, s6, q3, h8, h88, hTT, hu9, hu8]
           repeat' apply And.intro
           all_goals first | assumption | (intro h; refine Jau ?_ (by first | rfl | exact SC); first | exact j0 h | exact j1 h | exact j2 h | exact j3 h | exact j4 h | exact j5 h | exact j6 h | exact j7 h | exact j8 h | exact j9 h) | (intro h; exact SC) | (intros; trivial)
         . intro _; rintro D hD hd E σ ⟨h2, h6, s6, j0, j1, j2, j3, j4, j5, j6, j7, j8, j9⟩
           simp -implicitDefEqProofs (disch := omega) only [go_sem, h2, h6, s6, h8, h88, hTT, hu9, hu8]
           repeat' apply And.intro
           all_goals first | assumption | (intro h; refine Jau ?_ (by first | rfl | exact SC); first | exact j0 h | exact j1 h | exact j2 h | exact j3 h | exact j4 h | exact j5 h | exact j6 h | exact j7 h | exact j8 h | exact j9 h) | (intro h; exact SC) | (intros; trivial)
         . intro _; rintro D hD hd E σ ⟨h2, h6, s6, j0, j1, j2, j3, j4, j5, j6, j7, j8, j9⟩
           have d5 : D 5 = true := hd ⟨5, .data⟩ (by simp) rfl
           have q5 := j5 d5; simp -implicitDefEqProofs (disch := omega) only [go_sem, h2, h6, s6, q5, h8, h88, hTT, hu9, hu8]
           repeat' apply And.intro
           all_goals first | assumption | (intro h; refine Jau ?_ (by first | rfl | exact SC); first | exact j0 h | exact j1 h | exact j2 h | exact j3 h | exact j4 h | exact j5 h | exact j6 h | exact j7 h | exact j8 h | exact j9 h) | (intro h; exact SC) | (intros; trivial)
         . intro _; rintro D hD hd E σ ⟨h2, h6, s6, j0, j1, j2, j3, j4, j5, j6, j7, j8, j9⟩
           have d4 : D 4 = true := hd ⟨4, .data⟩ (by simp) rfl
           have q4 := j4 d4
           have d6 : D 6 = true := hd ⟨6, .data⟩ (by simp) rfl
           have q6 := j6 d6; simp -implicitDefEqProofs (disch := omega) only [go_sem, h2, h6, s6, q4, q6, h8, h88, hTT, hu9, hu8]
           repeat' apply And.intro
           all_goals first | assumption | (intro h; refine Jau ?_ (by first | rfl | exact SC); first | exact j0 h | exact j1 h | exact j2 h | exact j3 h | exact j4 h | exact j5 h | exact j6 h | exact j7 h | exact j8 h | exact j9 h) | (intro h; exact SC) | (intros; trivial)
         . intro h; exact absurd rfl h
         . intro _; rintro D hD hd E σ ⟨h2, h6, s6, j0, j1, j2, j3, j4, j5, j6, j7, j8, j9⟩
           have d8 : D 8 = true := hd ⟨8, .data⟩ (by simp) rfl
           have q8 := j8 d8; simp -implicitDefEqProofs (disch := omega) only [go_sem, h2, h6, s6, q8, h8, h88, hTT, hu9, hu8]
           repeat' apply And.intro
           all_goals first | assumption | (intro h; refine Jau ?_ (by first | rfl | exact SC); first | exact j0 h | exact j1 h | exact j2 h | exact j3 h | exact j4 h | exact j5 h | exact j6 h | exact j7 h | exact j8 h | exact j9 h) | (intro h; exact SC) | (intros; trivial)
       . intro o ho
         obtain rfl := Option.some.inj ho
         refine ⟨rfl, ?_⟩
         rintro D hD hd E σ ⟨h2, h6, s6, j0, j1, j2, j3, j4, j5, j6, j7, j8, j9⟩
         have d0 : D 0 = true := hd ⟨0, .data⟩ (by simp) rfl
         have q0 := j0 d0
         have d7 : D 7 = true := hd ⟨7, .data⟩ (by simp) rfl
         have q7 := j7 d7
         refine (?_ : semD (spB prog 19 88 [17]) (some 87) (.binOp .eql 125 (.tmp 79) (.tmp 86) 125) 4 _ _ _) _ _ _
         refine JpO (t := 125) (us := u.1.map (Value.int .i64) ++ [Value.string u.2]) (vs := s.map (Value.int .i64) ++ [Value.string d]) 3 3 (decide (u = (s, d))) ?_ ?_ (Jt2 u.1 u.2 hu8 hur hud) (Jt2 s d h8 hsr hsd) (by kernel_rfl) (by decide) (JtW u.1 u.2 hu8) (JtW s d h8) (by kernel_rfl) (by kernel_rfl) ?_ ?_
         . simp -implicitDefEqProofs (disch := omega) only [go_sem, q0]
           simp
         . simp -implicitDefEqProofs (disch := omega) only [go_sem, q7]
           simp
         . rw [decide_eq_true_iff]; exact Joa u.1 u.2 s d
         simp -implicitDefEqProofs (disch := omega) only [go_sem, h2, h6, s6, h8, h88, hTT, hu9, hu8]
         repeat' apply And.intro
         all_goals first | assumption | (intro h; refine Jau ?_ (by first | rfl | exact SC); first | exact j0 h | exact j1 h | exact j2 h | exact j3 h | exact j4 h | exact j5 h | exact j6 h | exact j7 h | exact j8 h | exact j9 h) | (intro h; exact SC)
       . rintro D E σ hD ⟨h2, h6, s6, j0, j1, j2, j3, j4, j5, j6, j7, j8, j9⟩
         have q0 := j0 (hD 0 (by decide))
         have q1 := j1 (hD 1 (by decide))
         have q2 := j2 (hD 2 (by decide))
         have q3 := j3 (hD 3 (by decide))
         have q4 := j4 (hD 4 (by decide))
         have q5 := j5 (hD 5 (by decide))
         have q6 := j6 (hD 6 (by decide))
         have q7 := j7 (hD 7 (by decide))
         have q8 := j8 (hD 8 (by decide))
         have q9 := j9 (hD 9 (by decide))
         simp -implicitDefEqProofs (disch := omega) only [go_sem, q9, results19]
theorem Jt0 (n f g : Int) : Ev prog 35 [I n, I f, I g] (B (inF n f g)) := by
 refine EV func35 ?_
 refine SA ?_
 refine Jab (λ h => ?_) (λ h => ?_) <;> simp -implicitDefEqProofs (disch := omega) only [go_sem, results35]
 . have h : f <= n := by omega
   simp [inF, h]
 . have h : ¬ f <= n := by omega
   simp [inF, h]
theorem JpD {l : List Ch} (f : ∀ c ∈ l, c.ok) : (chsS l).size <= 140 * l.length := by
 rw [<- Jar, Jlp]; exact Jdh l f
abbrev SLs (l : List ByteArray) : AV := .sl 1 (l.map Str)
section
variable (p : Nat -> Bool) (l : List ByteArray)
@[go_sem] theorem Joi : AV.namesL p (l.map Str) = false := Jak p l Str λ _ => rfl
@[go_sem] theorem JpW : AV.flatL (l.map Str) = true := JaP l Str λ _ => rfl
@[go_sem] theorem Jo4 : Jbv 1 (l.map Str) = true := Jaw 1 l Str λ _ => ⟨rfl, rfl⟩
@[go_sem] theorem Jnx (x : ByteArray) : l.map Str ++ [.v (.string x)] = (l ++ [x]).map Str := by simp
end
theorem Jfv {l : List Ch} (g : ∀ c ∈ l, c.ok) (j : l.length <= 60) : (JcE l).size <= 10000 := by
 have i := JpD g
 have f := JdQ [(l.length : Int)]
 simp only [L18] at f
 unfold JcE; rw [L0w]; omega
@[go_sem] theorem JwN (p : Nat -> Bool) (l : List (List Tot)) : AV.namesL p (l.map RPL) = false := Jak p l RPL λ _ => rfl
@[go_sem] theorem Jxq (l : List (List Tot)) : Jbv 1 (l.map RPL) = true := Jaw 1 l RPL λ _ => ⟨rfl, rfl⟩
@[go_sem] theorem Jwj (l : List (List Tot)) (r : List Tot) : l.map RPL ++ [.sl 2 (r.map RP)] = (l ++ [r]).map RPL := by simp
theorem Jds (a b : ByteArray) : (a.toList == b.toList) = decide (a = b) := by
 rw [ByteArray.toList_eq, ByteArray.toList_eq, L0Y, decide_eq_true_iff, beq_iff_eq]
 exact ⟨Jms, λ h => by rw [h]⟩
instance : DecidableEq Ch := λ a b => by
 refine decidable_of_iff (a.h = b.h /\ a.p = b.p /\ a.q = b.q /\ a.a = b.a /\ a.t = b.t) ?_
 constructor
 . rintro ⟨h1, h2, h3, h4, h5⟩; cases a; cases b; simp_all
 . rintro rfl; exact ⟨rfl, rfl, rfl, rfl, rfl⟩
theorem JxT (a b : Ch) : ((a.h == b.h) && ((a.p == b.p) && ((a.q == b.q) && ((a.a == b.a) && (a.t.toList == b.t.toList))))) = decide (a = b) := by
 rw [Jds, L0Y]; simp only [L00, beq_iff_eq, decide_eq_true_eq]
 constructor
 . rintro ⟨f, g, i, j, k⟩; cases a; cases b; simp_all
 . rintro rfl; exact ⟨rfl, rfl, rfl, rfl, rfl⟩
theorem Jgz (a b : List Int) (y : a.length <= 9223372036854775807) (o : b.length <= 9223372036854775807) : Ev prog 15 [SL a, SL b] (B (decide (a = b))) := by
 refine EV func15 ?_
 refine SA ?_
 refine Jab (λ o => ?_) (λ o => ?_)
 . refine SA ?_
   have : ¬ a = b := λ e => by subst e; omega
   simp [this]
 . refine SA ?_
   refine Jaf (λ n E x => ∃ v : Nat, v + n = a.length /\ E 0 = SL a /\ E 1 = SL b /\ E 5 = I v /\ ∀ i, i < v -> gd a i = gd b i) a.length ⟨0, by omega, ?_⟩ ?_
   . refine SA ?_
     simp
   . rintro n E x ⟨v, z, g, j, k, f⟩
     refine SA ?_
     refine Jab (λ u => ?_) (λ u => ?_)
     . refine SA ?_
       refine Jab (λ m => ?_) (λ m => ?_)
       . refine SA ?_
         have : ¬ a = b := λ e => by subst e; simp at m
         simp [this]
       . refine SA ?_
         refine Jad (n - 1) (by omega) ⟨v + 1, by omega, ?_⟩
         refine SA ?_
         refine ⟨by simp, λ i w => ?_⟩
         by_cases e : i = v
         . subst e
           simpa using m
         . exact f i (by omega)
     . refine SA ?_
       have : a = b := Je1 (by omega) λ i w => f i (by omega)
       simp [this]
theorem Jrf (a b : List Ch) (y : a.length <= 9223372036854775807) (o : b.length <= 9223372036854775807) : Ev prog 11 [CL a, CL b] (B (decide (a = b))) := by
 refine EV func11 ?_
 refine SA ?_
 refine Jab (λ o => ?_) (λ o => ?_)
 . refine SA ?_
   have : ¬ a = b := λ e => by subst e; omega
   simp [this]
 . refine SA ?_
   refine Jaf (λ n E x => ∃ v : Nat, v + n = a.length /\ E 0 = CL a /\ E 1 = CL b /\ E 5 = I v /\ ∀ i, i < v -> gd a i = gd b i) a.length ⟨0, by omega, ?_⟩ ?_
   . refine SA ?_
     simp
   . rintro n E x ⟨v, z, g, j, k, f⟩
     refine SA ?_
     refine Jab (λ u => ?_) (λ u => ?_)
     . refine SA ?_; rw [JxT]
       refine Jab (λ m => ?_) (λ m => ?_)
       . refine SA ?_
         have : ¬ a = b := λ e => by subst e; simp at m
         simp [this]
       . refine SA ?_
         refine Jad (n - 1) (by omega) ⟨v + 1, by omega, ?_⟩
         refine SA ?_
         refine ⟨by simp, λ i w => ?_⟩
         by_cases e : i = v
         . subst e
           simpa using m
         . exact f i (by omega)
     . refine SA ?_
       have : a = b := Je1 (by omega) λ i w => f i (by omega)
       simp [this]
theorem JkN (a b : List Deb) (y : a.length <= 9223372036854775807) (o : b.length <= 9223372036854775807) : Ev prog 20 [.sl 3 (a.map DP), .sl 3 (b.map DP)] (B (decide (a = b))) := by
 refine EV func20 ?_
 refine SA ?_
 refine Jab (λ o => ?_) (λ o => ?_)
 . refine SA ?_
   have : ¬ a = b := λ e => by subst e; omega
   simp [this]
 . refine SA ?_
   refine Jaf (λ n E x => ∃ v : Nat, v + n = a.length /\ E 0 = .sl 3 (a.map DP) /\ E 1 = .sl 3 (b.map DP) /\ E 5 = I v /\ ∀ i, i < v -> gd a i = gd b i) a.length ⟨0, by omega, ?_⟩ ?_
   . refine SA ?_
     simp
   . rintro n E x ⟨v, z, j, k, m, f⟩
     refine SA ?_
     refine Jab (λ u => ?_) (λ u => ?_)
     . refine SA ?_
       refine Jab (λ g => ?_) (λ g => ?_)
       . refine SA ?_
         have : ¬ a = b := λ e => by subst e; simp at g
         simp [this]
       . refine SA ?_
         refine Jad (n - 1) (by omega) ⟨v + 1, by omega, ?_⟩
         refine SA ?_
         refine ⟨by simp, λ i w => ?_⟩
         by_cases e : i = v
         . subst e
           simp at g; exact Prod.ext g.1 (Prod.ext g.2.1 g.2.2)
         . exact f i (by omega)
     . refine SA ?_
       have : a = b := Je1 (by omega) λ i w => f i (by omega)
       simp [this]
structure Fiv where
 a : Int
 b : Int
 c : Int
 d : Int
 e : Int
deriving Inhabited
def Fiv.r (x : Fiv) : Prop := R64 x.a /\ R64 x.b /\ R64 x.c /\ R64 x.d /\ R64 x.e
section
variable (p : Nat -> Bool) (l : List Fiv)
end
def Jdz (b : Int) (v : Nat) : List Int := List.replicate v b ++ List.replicate (32 - v) 0
theorem Jj2 (b : Int) (v : Nat) (f : v < 32) : (Jdz b v).set v b = Jdz b (v + 1) := by
 unfold Jdz
 rw [L2s _ _ (by simp), L2o, L1v, show 32 - v = (32 - (v + 1)) + 1 from by omega, L2t, List.set_cons_zero, L2h]
 simp
theorem Jgb (b : Int) (v : Nat) (f : v <= 32) : (Jdz b v).length = 32 := by unfold Jdz; simp; omega
@[go_sem] theorem Jyr (n : Nat) : List.replicate n (Y 0) = (List.replicate n 0).map Y := by simp
def exK : ByteArray := strOfNums (List.replicate 32 0)
def exC : List Ch := [⟨5, 1, 2, 300, ⟨#[97]⟩⟩, ⟨9, 2, 0, 50, ⟨#[98]⟩⟩, ⟨5, 1, 0, 7, ⟨#[]⟩⟩]
theorem JnW : Ev prog 16 [] (LP exK exC) := by
 refine EW [1] func16 ?_
 refine SA ?_
 refine Jfd Plain.mono ?_
 refine SA ?_
 refine Jdu (List.replicate 32 0) (by simp -implicitDefEqProofs (disch := omega) only [go_sem]; rfl) (by intro b; refine SD ?_; intro e; cases e) (e := 5) rfl rfl rfl ?_
 refine SA ?_
 rfl
theorem JmB : Jcp exC = true := by decide +kernel
theorem JnV : Jn8 exK exC = true := by
 have : exK.size = 32 := by unfold exK; rw [strOfNums_size]; rfl
 simp only [Jn8, this, decide_true, L0d, JmB]
theorem Jgx : ∀ c ∈ exC, c.good := (JnO JmB).2
theorem Jnq {j : Nat} (f : j < 8) : ∀ (p : List Tot) (h : Nat) (t : Tot), gd (Jfr h p t).1 j = gd t.1 j + (p.map λ u => gd u.1 j).sum
 | [], h, t => by simp [Jfr]
 | u :: p, h, t => by
  rw [Jfr, Jnq f p]
  have : gd (Ji4 h u t).1 j = gd t.1 j + gd u.1 j := by
   unfold Ji4; split
   . show gd (JfJ _ _) j = _; rw [JiY _ _ f]; omega
   . show gd (JfJ _ _) j = _; rw [JiY _ _ f]
  rw [this]; simp; omega
theorem JnN {g : Tot} {a : Acc} {m : List Ch} (k : JeU g a = true) {j : Nat} (u : j < 8) (f : gd (JaO a.l) j ≠ gd (JaO m) j) : JeU g { a with l := m } = false := by
 cases hb : JeU g { a with l := m } with
 | false => rfl
 | true =>
  exfalso
  simp only [JeU, L00, decide_eq_true_eq] at k hb; have e := k.2.trans hb.2.symm
  have i := congrArg (λ t : Tot => gd t.1 j) e
  simp only [Jnq u] at i
  apply f
  have n : gd (Jks a.s a.l).1 j = gd (JaO a.l) j := rfl
  have o : gd (Jks a.s m).1 j = gd (JaO m) j := rfl
  rw [n, o] at i
  omega
def L5 : List Ch := [⟨5, 1, 2, 300, ⟨#[97]⟩⟩, ⟨5, 1, 0, 7, ⟨#[]⟩⟩]
def L5b : List Ch := [⟨5, 1, 2, 301, ⟨#[97]⟩⟩, ⟨5, 1, 0, 7, ⟨#[]⟩⟩]
theorem Jx1 : ofF exC 5 = L5 := by rfl
theorem Jx2 : ofF exC 6 = [] := by rfl
theorem JtU (h : Nat) (g : h < 64) (f : sibN h < 64) : gd (Jgs exK exC h) 0 = Jhf exK exC (sibN h) := by
 have : gd (Jgs exK exC h) 0 = gd (rowT exK exC 0) (sibN (h / 2 ^ 0)) := rfl
 rw [this, Nat.pow_zero, Nat.div_one]
 unfold rowT gd; simp [f]
theorem JvH : Ev prog 5 [] (B true) := by
 have m : exC.length <= 9223372036854775807 := by decide
 have L := Jrz exC m JmB; have T := Jrg exK exC m JnV
 have V := Jgw exK exC 5 m JnV (by decide)
 have W := Jgw exK exC 6 m JnV (by decide)
 have U := Jgw exK exC 4 m JnV (by decide)
 have X := Jgw exK exC 8 m JnV (by decide)
 have M := JnU exC JmB; have N := Jdx exK exC m
 have g : exC.length <= 60 := by decide
 have F := JkG exK Jgx g 5 (by decide)
 have Q := JkG exK Jgx g 6 (by decide)
 have o : (Jc8 exK exC).1 = JaO exC := Jrh exK Jgx g
 have D : (Jc8 exK exC).2.size = 32 := (JgG exK Jgx g (k := 6) (i := 0) (by omega) (by decide)).2
 have f : JaO exC = [57, -307, 250, 0, 0, 0, 0, 0] := by decide +kernel
 have x : debF exC = [(1, 2, 300), (2, 0, 50), (1, 0, 7)] := by decide +kernel
 have z : (ownA exK exC 5).l = L5 := Jx1
 have A : (ownA exK exC 6).l = [] := Jx2
 have Y : (gd (ownA exK exC 4).p 0).1 = [7, -307, 300, 0, 0, 0, 0, 0] := by
  show (gd (Jgs exK exC 4) 0).1 = _
  rw [JtU 4 (by decide) (by decide)]
  show JaO (ofF exC ((sibN 4 : Nat) : Int)) = _
  decide +kernel
 have Z : (gd (ownA exK exC 8).p 0).1 = [50, 0, -50, 0, 0, 0, 0, 0] := by
  show (gd (Jgs exK exC 8) 0).1 = _
  rw [JtU 8 (by decide) (by decide)]
  show JaO (ofF exC ((sibN 8 : Nat) : Int)) = _
  decide +kernel
 have q4 : (ownA exK exC 4).p.length = 6 := by simp [ownA, Jgs]
 have q8 : (ownA exK exC 8).p.length = 6 := by simp [ownA, Jgs]
 have w5 : (ownA exK exC 5).p.length = 6 := by simp [ownA, Jgs]
 have w6 : (ownA exK exC 6).p.length = 6 := by simp [ownA, Jgs]
 have R : JeU (Jc8 exK exC) { ownA exK exC 5 with l := L5b } = false := JnN F (j := 1) (by decide) (by rw [z]; decide +kernel)
 have u : ∀ n ∈ (Jc8 exK exC).1, R64 n := by rw [o, f]; intro n K; simp at K; unfold R64; rcases K with rfl | rfl | rfl | rfl <;> omega
 have G := JeV (Jc8 exK exC) (ownA exK exC 5) (by rw [z]; decide) (by omega) (by rw [o, f]; decide) u (by omega)
 have H := JeV (Jc8 exK exC) (ownA exK exC 6) (by rw [A]; decide) (by omega) (by rw [o, f]; decide) u (by omega)
 have I := JeV (Jc8 exK exC) { ownA exK exC 5 with l := L5b } (by decide) (by show (ownA exK exC 5).p.length <= _; omega) (by rw [o, f]; decide) u (by omega)
 rw [F] at G; rw [Q] at H; rw [R] at I
 have J : (ownA exK exC 5).h = 5 := rfl
 rw [show (decide (exK.size = 32) && Jcp exC) = true from JnV] at N
 rw [f] at L o; rw [x] at M; generalize ownA exK exC 5 = O at *; generalize ownA exK exC 6 = P at *; generalize ownA exK exC 4 = a4 at *; generalize ownA exK exC 8 = a8 at *; generalize Jc8 exK exC = S at *
 have E : Ev prog 21 [.agg [Str ByteArray.empty, .v (.slice none 0 0)]] (B false) := by
  have := Jdx ByteArray.empty [] (by decide)
  rw [show (decide (ByteArray.empty.size = 32) && Jcp []) = false from rfl] at this
  exact this.asIf ⟨Jr6 ⟨Jpg _, Jr7 5, trivial⟩, trivial⟩
 have C := JnW; generalize exC = ec at *; generalize exK = ek at *; obtain ⟨x5, l5, s5, r5⟩ := O; obtain ⟨x6, l6, s6, r6⟩ := P
 simp only at z A J
 subst z A J; obtain ⟨S1, S2⟩ := S
 simp only at o D
 subst o
 refine EV func5 ?_
 refine SA ?_
 refine Jaa C ?_
 refine SA ?_
 refine Jaa L ?_
 refine SA ?_
 refine Jaa T ?_
 refine SA ?_
 refine Jaa V ?_
 refine SA ?_
 refine Jaa W ?_
 refine SA ?_
 refine Jaa U ?_
 refine SA ?_
 refine Jaa X ?_
 refine SA ?_
 refine Jaa M ?_
 have y : L5.length = 2 := rfl
 refine SA ?_
 refine Jam (by omega) ?_
 refine SA ?_
 refine Jam (by omega) ?_
 refine SA ?_
 refine Jam (by omega) ?_
 refine SA ?_
 have w : L5.map CH = [CH ⟨5, 1, 2, 300, ⟨#[97]⟩⟩, CH ⟨5, 1, 0, 7, ⟨#[]⟩⟩] := rfl
 refine SA ?_
 refine Jaa (Jgz [57, -307, 250, 0, 0, 0, 0, 0] [57, -307, 250, 0, 0, 0, 0, 0] (by decide) (by decide)) ?_
 refine SA ?_
 refine Jaa (Jgz [57, -307, 250, 0, 0, 0, 0, 0] [57, -307, 250, 0, 0, 0, 0, 0] (by decide) (by decide)) ?_
 refine SA ?_
 refine Jaa (Jgz [7, -307, 300, 0, 0, 0, 0, 0] [7, -307, 300, 0, 0, 0, 0, 0] (by decide) (by decide)) ?_
 refine SA ?_
 refine Jaa (Jgz [50, 0, -50, 0, 0, 0, 0, 0] [50, 0, -50, 0, 0, 0, 0, 0] (by decide) (by decide)) ?_
 refine SA ?_
 refine Ja0 rfl ?_
 refine SA ?_
 refine Jaa G ?_
 refine SA ?_
 refine Jaa H ?_
 refine SA ?_
 refine Jaa I ?_
 refine SA ?_
 refine Ja0 (by omega) ?_
 refine SA ?_
 refine Jaa (JkN [(1, 2, 300), (2, 0, 50), (1, 0, 7)] [(1, 2, 300), (2, 0, 50), (1, 0, 7)] (by decide) (by decide)) ?_
 refine SA ?_
 refine Jaa N ?_
 refine SA ?_
 refine Jaa E ?_
 exact SB
def chg1 (h : Int) (t : ByteArray) (b : Bl) : List Ch := if b.p = b.q then [] else [⟨h, b.p, b.q, b.a, t⟩]
def chgF (h : Int) (t : ByteArray) (l : List Bl) : List Ch := l.flatMap (chg1 h t)
theorem JpC (h : Int) (t : ByteArray) (l : List Bl) (b : Bl) : chgF h t (l ++ [b]) = chgF h t l ++ chg1 h t b := by simp [chgF]
theorem Jet (h : Int) (t : ByteArray) (l : List Bl) : (chgF h t l).length <= l.length := by
 induction l with
 | nil => exact L09 _
 | cons b l f =>
  simp only [chgF, L1B, L0b, L0e] at *; unfold chg1 at *
  split <;> simp only [L0r, L0e] <;> omega
def Jb7 (b : Bl) : Bool := decide (b.p = b.q) || inF b.a 0 1000000000
theorem JyU {t : Tp} (h : JbA t = true) {i : Nat} (f : i < t.legs.length) : 0 <= payF t i /\ payF t i <= 7 := by
 have g := (Jaz.1 h).2.1.2.1; unfold payF
 split
 . exact (Jfp h (by omega)).1
 split <;> exact (Jfp h (by omega)).1
theorem Jpk {t : Tp} (h : JbA t = true) {b : Bl} (g : b ∈ JaZ t) : (0 <= b.p /\ b.p <= 7) /\ (0 <= b.q /\ b.q <= 7) := by
 obtain ⟨i, f, rfl⟩ := L05.1 g
 have f := L1a.1 f
 have := (JbC.1 (JgK h f).1).1.2.1
 exact ⟨JyU h f, this⟩
theorem Jmo (L : List Bl) {v : Nat} (f : v < L.length) (h : (L.take v).all Jb7 = true) : (L.take (v + 1)).all Jb7 = Jb7 (gd L v) := by
 rw [L0B, JaE L v f]
 simp [h]
theorem Jo6 {L : List Bl} {v : Nat} (f : v < L.length) (h : Jb7 (gd L v) = false) : L.all Jb7 = false := by
 rw [List.all_eq_false]
 exact ⟨_, Jaj L v f, by rw [h]; decide⟩
theorem Jmw (h : Int) (f : ByteArray) (L : List Bl) {v : Nat} (g : v < L.length) : chgF h f (L.take (v + 1)) = chgF h f (L.take v) ++ chg1 h f (gd L v) := by
 rw [L0B, JaE L v g]
 exact JpC ..
set_option maxHeartbeats 2000000 in
theorem JnM (t : Tp) (W : t.ok) (h : Int) (m : ByteArray) (M : JbA t = true) (U : inF h 0 63 = true) (h3 : m.size <= 100) : Ev prog 9 [TPP t, I h, Str m] (if (JaZ t).all Jb7 = true then .tup [CL (chgF h m (JaZ t)), I 0] else .tup [CL [], I 400]) := by
 have c1 := JjP t W M
 have O := λ b O => Jpk M (b := b) O
 have hl : (JaZ t).length <= 11 := by have := (Jaz.1 M).2.1; rw [Jbr]; omega
 generalize JaZ t = L at *; have S := JbT h 0 63; rw [U] at S
 suffices core : ∀ R : AV, (L.all Jb7 = true -> R = .tup [.new 84 5 ((chgF h m L).map CH), I 0]) -> (L.all Jb7 = false -> R = .tup [.new 84 5 [], I 400]) -> Ev prog 9 [TPP t, I h, Str m] R by
  by_cases ho : L.all Jb7 = true
  . rw [if_pos ho]; exact Jch (core _ (λ _ => rfl) (λ K => absurd ho (by rw [K]; decide))) _
  . rw [if_neg ho]; exact Jch (core _ (λ K => absurd K ho) (λ _ => rfl)) _
 intro R hA hB
 clear W M
 obtain ⟨V, X, aa, ac, Y, ab, ⟨⟨pc, pn, pr, ps⟩, pl⟩, T, ad⟩ := t
 refine EV func9 ?_
 refine SA ?_
 refine Jaa c1 ?_
 refine SA ?_
 refine Jaa S ?_
 refine SA ?_
 refine Jam (by omega) ?_
 refine SA ?_
 refine Jaf (λ n E σ => ∃ v : Nat, v + n = L.length /\ (L.take v).all Jb7 = true /\ E 1 = I h /\ E 2 = Str m /\ E 10 = .own 20971680 5 0 (chgF h m (L.take v)).length /\ E 31 = BLS L /\ E 32 = I L.length /\ E 33 = I v /\ σ 20971680 = some ⟨84, 5, (chgF h m (L.take v)).map CH⟩) L.length ⟨0, by omega, rfl, ?_⟩ ?_
 . simp -implicitDefEqProofs (disch := omega) only [go_sem, chgF]
   simp
 rintro n E σ ⟨v, hv, o, z, A, g, i, j, k, y⟩
 have Q : (chgF h m (L.take v)).length <= 11 := by
  have := Jet h m (L.take v)
  rw [L01] at this; omega
 refine SA ?_
 refine Jab (λ hc => ?_) (λ hc => ?_)
 rotate_left
 . have e : v = L.length := by omega
   subst e; rw [L04] at g y Q o; rw [hA o]; simp -implicitDefEqProofs (disch := omega) only [go_sem, z, A, g, i, j, k, y, L04, results9]
 have C : v < L.length := by omega
 have w := Jmw h m L C; have B := Jmo L C o
 have D := λ K => hB (Jo6 C K)
 obtain ⟨⟨Z, p2⟩, q1, q2⟩ := O _ (Jaj L v C)
 have F := Jhd ⟨h, (gd L v).p, (gd L v).q, (gd L v).a, m⟩; generalize G : gd L v = b at *; obtain ⟨p, q, f, u, a⟩ := b; simp only [chg1, Jb7] at w B D Z p2 q1 q2 F; simp -implicitDefEqProofs (disch := omega) only [go_sem, z, A, g, i, j, k, y, G]
 refine Jab (λ J => ?_) (λ J => ?_)
 . refine SA ?_; subst J; rw [if_pos rfl, L0F] at w
   refine Jad (n - 1) (by omega) ⟨v + 1, by omega, by rw [B]; simp, ?_⟩
   rw [w]; refine SA ?_
   simp
 rw [if_neg J] at w
 have P : chOK ⟨h, p, q, a, m⟩ = inF a 0 1000000000 := by
  have N := of_decide_eq_true U; simp only [chOK, N, h3, inF, Z, p2, q1, q2, J, ne_eq, not_false_eq_true, decide_true, L0d, Bool.and_true, and_self]
 rw [P] at F; rw [decide_eq_false J, L1F] at B D
 have H : (chgF h m (L.take v)).map CH ++ [.agg [I h, I p, I q, I a, Str m]] = (chgF h m (L.take v) ++ [(⟨h, p, q, a, m⟩ : Ch)]).map CH := JjK (chgF h m (L.take v)) ⟨h, p, q, a, m⟩
 generalize inF a 0 1000000000 = x at *; refine SA ?_
 refine Jaa F ?_
 cases x
 . rw [D rfl]; exact SB
 . simp -implicitDefEqProofs (disch := omega) only [go_sem, z, A, g, i, j, k, y, G, H, L04]
   refine Jad (n - 1) (by omega) ⟨v + 1, by omega, B, ?_⟩
   rw [w]; simp -implicitDefEqProofs (disch := omega) only [go_sem, z, A, g, i, j, k, y, G, H, L04]
   simp
end Go.Proofs.YtlecbpkidomjbaaGreatDoor.Au

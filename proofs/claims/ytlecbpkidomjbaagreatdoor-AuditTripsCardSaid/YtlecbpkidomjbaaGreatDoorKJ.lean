/- Audits: what is summed, sealed, accounted, checked -/
import Derived.Test.YtlecbpkidomjbaaGreatDoorKI
set_option linter.all false
set_option maxRecDepth 100000
namespace Go.Proofs.YtlecbpkidomjbaaGreatDoor.Au
open Go.Proofs.Tryz
open Go.Vai Go Go.Proofs Go.Proofs.YtlecbpkidomjbaaGreatDoor
def JaK (a : ByteArray) : ByteArray := shaF (⟨#[0]⟩ ++ a)
def Ja2 (a b : ByteArray) : ByteArray := shaF (⟨#[1]⟩ ++ (a ++ b))
theorem Jbg (a : ByteArray) : (JaK a).size = 32 := Jc3 _
theorem Jbt (a b : ByteArray) : (Ja2 a b).size = 32 := Jc3 _
theorem Jew (a b : ByteArray) (f : a.size + b.size <= 99999999) : Ev prog 80 [Str a, Str b] (Str (Ja2 a b)) := Jqi a b f
theorem Jfy (a : ByteArray) (f : a.size <= 99999999) : Ev prog 81 [Str a] (Str (JaK a)) := Jp0 a f
theorem JiS (a b : ByteArray) (f : a.size + b.size <= 99999999) : Ev prog 157 [Str a, Str b] (Str (Ja2 a b)) := JmF a b f
theorem JiH (a : ByteArray) (f : a.size <= 99999999) : Ev prog 156 [Str a] (Str (JaK a)) := Jmw a f
def Jn9 (f : ByteArray) (h : Int) : ByteArray := Ja2 f (JaK (viS h))
theorem JqR (f : ByteArray) (h : Int) (j : f.size <= 10000) (g : 0 <= h) (i : h <= 1000000) : Ev prog 44 [Str f, I h] (Str (Jn9 f h)) := by
 refine EV func44 ?_
 have m := Jav h; have k := Jbg (viS h); simp -implicitDefEqProofs (disch := omega) only [go_sem, ntmps44]
 refine Jaa (JcX h (by omega) (by omega)) ?_
 simp -implicitDefEqProofs (disch := omega) only [go_sem]
 refine Jaa (Jfy (viS h) (by omega)) ?_
 simp -implicitDefEqProofs (disch := omega) only [go_sem]
 refine Jaa (Jew f (JaK (viS h)) (by omega)) ?_
 simp -implicitDefEqProofs (disch := omega) only [go_sem, results44]
 rfl
structure Ch where
 h : Int
 p : Int
 q : Int
 a : Int
 t : ByteArray
deriving Inhabited
abbrev CH (c : Ch) : AV := .agg [I c.h, I c.p, I c.q, I c.a, Str c.t]
abbrev CL (l : List Ch) : AV := .sl 5 (l.map CH)
section
variable (p : Nat -> Bool) (l : List Ch)
@[go_sem] theorem Jyb : AV.namesL p (l.map CH) = false := Jaj p l CH λ _ => rfl
@[go_sem] theorem JzS : AV.flatL (l.map CH) = true := JaR l CH λ _ => rfl
@[go_sem] theorem Jzk : Jbq 5 (l.map CH) = true := Jaw 5 l CH λ _ => ⟨rfl, rfl⟩
@[go_sem] theorem JoJ (c : Ch) : l.map CH ++ [.agg [I c.h, I c.p, I c.q, I c.a, Str c.t]] = (l ++ [c]).map CH := by simp
end
def ofF (l : List Ch) (h : Int) : List Ch := l.filter λ c => c.h = h
theorem Jyu (l : List Ch) (h : Int) (B : l.length <= 1000) : Ev prog 43 [CL l, I h] (CL (ofF l h)) := by
 refine Jed (r := .new 84 5 ((ofF l h).map CH)) ?_ _
 refine EV func43 ?_
 simp -implicitDefEqProofs (disch := omega) only [go_sem, ntmps43]
 refine Jag (λ n E z => ∃ v : Nat, v + n = l.length /\ E 1 = I h /\ E 5 = .own 92274768 5 0 (ofF (l.take v) h).length /\ E 8 = CL l /\ E 9 = I l.length /\ E 10 = I v /\ z 92274768 = some ⟨84, 5, (ofF (l.take v) h).map CH⟩) l.length ⟨0, by omega, ?_⟩ ?_
 . simp -implicitDefEqProofs (disch := omega) only [go_sem, ofF]
   simp
 . rintro n E z ⟨v, C, j, g, k, m, f, i⟩
   have y : (ofF (l.take v) h).length <= 1000 := by
    have := L1r (λ c : Ch => decide (c.h = h)) (l.take v)
    rw [L01] at this; unfold ofF; omega
   simp -implicitDefEqProofs (disch := omega) only [go_sem, j, g, k, m, f, i]
   refine Jab (λ A => ?_) (λ A => ?_)
   . have u : l.take (v + 1) = l.take v ++ [gd l v] := by rw [L0D, JaA l v (by omega)]; rfl
     simp -implicitDefEqProofs (disch := omega) only [go_sem, j, g, k, m, f, i]
     refine Jab (λ w => ?_) (λ w => ?_)
     . have o : ofF (l.take (v + 1)) h = ofF (l.take v) h ++ [gd l v] := by rw [u]; simp [ofF, w]
       simp -implicitDefEqProofs (disch := omega) only [go_sem, j, g, k, m, f, i, L05]
       refine Jad (n - 1) (by omega) ⟨v + 1, by omega, ?_⟩
       rw [o]; simp -implicitDefEqProofs (disch := omega) only [go_sem, j, g, k, m, f, i, L05]
       simp
     . have o : ofF (l.take (v + 1)) h = ofF (l.take v) h := by rw [u]; simp [ofF, w]
       simp -implicitDefEqProofs (disch := omega) only [go_sem, j, g, k, m, f, i]
       refine Jad (n - 1) (by omega) ⟨v + 1, by omega, ?_⟩
       rw [o]; simp -implicitDefEqProofs (disch := omega) only [go_sem, j, g, k, m, f, i]
       simp
   . have e : v = l.length := by omega
     subst e; rw [L05] at g i y; simp -implicitDefEqProofs (disch := omega) only [go_sem, j, g, k, m, f, i, L05, results43]
theorem Jqy (s : ByteArray) (h : s.size <= 65536) : Ev prog 84 [Str s] (.tup [Str (viS s.size ++ s), I 0]) := by
 refine EV func84 ?_
 simp -implicitDefEqProofs (disch := omega) only [go_sem, ntmps84]
 refine Jab (λ f => absurd f (by omega)) (λ f => ?_)
 simp -implicitDefEqProofs (disch := omega) only [go_sem]
 refine Jaa (JcX (s.size : Int) (by omega) (by omega)) ?_
 have g := Jav (s.size : Int)
 simp -implicitDefEqProofs (disch := omega) only [go_sem, results84]
abbrev bPC (u : Bool) : AV := if u then .ptr 184549424 2 0 0 else .v (.pointer none)
@[go_sem] theorem bPC_f : bPC false = .v (.pointer none) := rfl
@[go_sem] theorem bPC_t : bPC true = .ptr 184549424 2 0 0 := rfl
abbrev bLC (u : Bool) (l : List Int) : List (Nat × Blk) := [(184549424, ⟨184, 2, [.agg [bPC u, .own 184549425 1 0 l.length]]⟩), (184549425, ⟨5, 1, l.map Y⟩)]
set_option maxHeartbeats 1000000 in
theorem Jo4 (u : Bool) (l : List Int) : LOK prog 124 (inI [184549424, 184549425]) [.ptr 184549424 2 0 0] (stO (bLC u l)) (.tup []) (stO (bLC true l)) := by
 refine Jbc [] [184549424, 184549425] func124 rfl (by kernel_rfl) mo (nb rfl) rfl (by kernel_rfl) (by kernel_rfl) ?_
 cases u with
 | false =>
  simp -implicitDefEqProofs (disch := omega) only [go_sem, ntmps124]
  refine JbY (te := 182) true (.inl ⟨by simp -implicitDefEqProofs (disch := omega) only [go_sem], rfl⟩) rfl true (.inl ⟨rfl, rfl⟩) ?_
  simp -implicitDefEqProofs (disch := omega) only [go_sem]
  refine Jdr (te := 182) (k := ⟨184, 2, [.agg [.v (.pointer none), .own 184549425 1 0 l.length]]⟩) (id := 184549424) (sz := 2) (j := 0) (by simp -implicitDefEqProofs (disch := omega) only [go_sem]) (by simp -implicitDefEqProofs (disch := omega) only [go_sem]) rfl (by decide) (by show 0 < 1 * 2; omega) rfl rfl rfl (by decide) ?_
  simp -implicitDefEqProofs (disch := omega) only [go_sem]
  refine Jak rfl ?_
  refine Jdg (.ptr 184549424 2 0 0) (by simp -implicitDefEqProofs (disch := omega) only [go_sem]) func154 rfl rfl rfl rfl ?_
  simp -implicitDefEqProofs (disch := omega) only [go_sem]
  refine Jdh (te := 182) (k := ⟨184, 2, [.agg [.v (.pointer none), .own 184549425 1 0 l.length]]⟩) (id := 184549424) (sz := 2) (j := 0) (by simp -implicitDefEqProofs (disch := omega) only [go_sem]) (by simp -implicitDefEqProofs (disch := omega) only [go_sem]) rfl (by decide) (by simp) rfl rfl rfl (show prog.cellsOf 184 ≠ 0 /\ prog.cellsOf 184 <= 2 from by decide +kernel) (by kernel_rfl) ?_
  simp -implicitDefEqProofs (disch := omega) only [go_sem, results124]
 | true =>
  simp -implicitDefEqProofs (disch := omega) only [go_sem, ntmps124]
  refine JbY (te := 182) false (.inr (.inl ⟨⟨184549424, 2, 0, 0, by simp -implicitDefEqProofs (disch := omega) only [go_sem]⟩, rfl⟩)) rfl false (.inl ⟨rfl, rfl⟩) ?_
  simp -implicitDefEqProofs (disch := omega) only [go_sem]
  refine Jd4 (te := 182) (id := 184549424) (sz := 2) (i := 0) (j := 0) (by simp -implicitDefEqProofs (disch := omega) only [go_sem]) (by simp -implicitDefEqProofs (disch := omega) only [go_sem]) rfl rfl false (.inr ⟨rfl, rfl⟩) ?_
  simp -implicitDefEqProofs (disch := omega) only [go_sem, results124]
set_option maxHeartbeats 1000000 in
theorem JkN (u : Bool) (l : List Int) (s : ByteArray) (i : l.length + s.size <= 100000000) : LOK prog 85 (inI [184549424]) [.ptr 184549424 2 0 0, Str s] (stO (bLC u l)) (.tup [I s.size, .v .nilIface]) (stO (bLC true (l ++ bI s))) := by
 refine Jbc [] [184549424] func85 rfl (by kernel_rfl) mo (nb rfl) rfl (by kernel_rfl) (by kernel_rfl) ?_
 have f := Jao s; simp -implicitDefEqProofs (disch := omega) only [go_sem, ntmps85]
 refine Jak rfl ?_
 have g : LOK prog 124 (inI [184549424, 184549425]) ([.ptr 184549424 2 0 0] ++ []) (stO (bLC u l)) (.tup []) (stO (bLC true l)) := Jo4 u l
 refine JaV [184549424, 184549425] g ?_ ?_ ?_ ?_ ?_ ?_ ?_ (hsp := λ id h _ => L0y.2 h)
 . simp -implicitDefEqProofs (disch := omega) only [go_sem]
 . simp -implicitDefEqProofs (disch := omega) only [go_sem]
 . simp -implicitDefEqProofs (disch := omega) only [go_sem]
 . simp -implicitDefEqProofs (disch := omega) only [go_sem]
 . cases u <;> simp -implicitDefEqProofs (disch := omega) only [go_sem]
 . simp -implicitDefEqProofs (disch := omega) only [go_sem]
 . simp -implicitDefEqProofs (disch := omega) only [go_sem, L0a, f, results85, L05, and_self]
theorem Jof (u : Bool) (s : ByteArray) (i : s.size ≠ 0) (j : s.size <= 100000000) : LOK prog 86 (inI [184549424]) [.ptr 184549424 2 0 0] (stO (bLC u (bI s))) (Str s) (stO [(184549424, ⟨184, 2, [.agg [bPC u, .any]]⟩), (184549425, ⟨5, 1, []⟩)]) := by
 refine Jbc [] [184549424] func86 rfl (by kernel_rfl) mo (nb rfl) rfl (by kernel_rfl) (by kernel_rfl) ?_
 have f := Jao s
 obtain ⟨m, g⟩ : ∃ m, s.size = m + 1 := ⟨s.size - 1, by omega⟩
 simp -implicitDefEqProofs (disch := omega) only [go_sem, ntmps86, f, g]
 refine JcK (e := 5) (id := 184549425) s (by simp -implicitDefEqProofs (disch := omega) only [go_sem, f, g]) (by simp -implicitDefEqProofs (disch := omega) only [go_sem, f, g]) (by simp -implicitDefEqProofs (disch := omega) only [go_sem, f, g]) (by omega) rfl (by decide +kernel) (by simp -implicitDefEqProofs (disch := omega) only [go_sem]) (by omega) ?_
 cases u <;> simp -implicitDefEqProofs (disch := omega) only [go_sem, results86]
abbrev bPL (u : Bool) : AV := if u then .ptr 100663376 2 0 0 else .v (.pointer none)
@[go_sem] theorem bPL_f : bPL false = .v (.pointer none) := rfl
@[go_sem] theorem bPL_t : bPL true = .ptr 100663376 2 0 0 := rfl
abbrev bLL (u : Bool) (l : List Int) : List (Nat × Blk) := [(100663376, ⟨184, 2, [.agg [bPL u, .own 100663377 1 0 l.length]]⟩), (100663377, ⟨5, 1, l.map Y⟩)]
set_option maxHeartbeats 1000000 in
theorem Jo5 (u : Bool) (l : List Int) : LOK prog 124 (inI [100663376, 100663377]) [.ptr 100663376 2 0 0] (stO (bLL u l)) (.tup []) (stO (bLL true l)) := by
 refine Jbc [] [100663376, 100663377] func124 rfl (by kernel_rfl) mo (nb rfl) rfl (by kernel_rfl) (by kernel_rfl) ?_
 cases u with
 | false =>
  simp -implicitDefEqProofs (disch := omega) only [go_sem, ntmps124]
  refine JbY (te := 182) true (.inl ⟨by simp -implicitDefEqProofs (disch := omega) only [go_sem], rfl⟩) rfl true (.inl ⟨rfl, rfl⟩) ?_
  simp -implicitDefEqProofs (disch := omega) only [go_sem]
  refine Jdr (te := 182) (k := ⟨184, 2, [.agg [.v (.pointer none), .own 100663377 1 0 l.length]]⟩) (id := 100663376) (sz := 2) (j := 0) (by simp -implicitDefEqProofs (disch := omega) only [go_sem]) (by simp -implicitDefEqProofs (disch := omega) only [go_sem]) rfl (by decide) (by show 0 < 1 * 2; omega) rfl rfl rfl (by decide) ?_
  simp -implicitDefEqProofs (disch := omega) only [go_sem]
  refine Jak rfl ?_
  refine Jdg (.ptr 100663376 2 0 0) (by simp -implicitDefEqProofs (disch := omega) only [go_sem]) func154 rfl rfl rfl rfl ?_
  simp -implicitDefEqProofs (disch := omega) only [go_sem]
  refine Jdh (te := 182) (k := ⟨184, 2, [.agg [.v (.pointer none), .own 100663377 1 0 l.length]]⟩) (id := 100663376) (sz := 2) (j := 0) (by simp -implicitDefEqProofs (disch := omega) only [go_sem]) (by simp -implicitDefEqProofs (disch := omega) only [go_sem]) rfl (by decide) (by simp) rfl rfl rfl (show prog.cellsOf 184 ≠ 0 /\ prog.cellsOf 184 <= 2 from by decide +kernel) (by kernel_rfl) ?_
  simp -implicitDefEqProofs (disch := omega) only [go_sem, results124]
 | true =>
  simp -implicitDefEqProofs (disch := omega) only [go_sem, ntmps124]
  refine JbY (te := 182) false (.inr (.inl ⟨⟨100663376, 2, 0, 0, by simp -implicitDefEqProofs (disch := omega) only [go_sem]⟩, rfl⟩)) rfl false (.inl ⟨rfl, rfl⟩) ?_
  simp -implicitDefEqProofs (disch := omega) only [go_sem]
  refine Jd4 (te := 182) (id := 100663376) (sz := 2) (i := 0) (j := 0) (by simp -implicitDefEqProofs (disch := omega) only [go_sem]) (by simp -implicitDefEqProofs (disch := omega) only [go_sem]) rfl rfl false (.inr ⟨rfl, rfl⟩) ?_
  simp -implicitDefEqProofs (disch := omega) only [go_sem, results124]
set_option maxHeartbeats 1000000 in
theorem JkO (u : Bool) (l : List Int) (s : ByteArray) (i : l.length + s.size <= 100000000) : LOK prog 85 (inI [100663376]) [.ptr 100663376 2 0 0, Str s] (stO (bLL u l)) (.tup [I s.size, .v .nilIface]) (stO (bLL true (l ++ bI s))) := by
 refine Jbc [] [100663376] func85 rfl (by kernel_rfl) mo (nb rfl) rfl (by kernel_rfl) (by kernel_rfl) ?_
 have f := Jao s; simp -implicitDefEqProofs (disch := omega) only [go_sem, ntmps85]
 refine Jak rfl ?_
 have g : LOK prog 124 (inI [100663376, 100663377]) ([.ptr 100663376 2 0 0] ++ []) (stO (bLL u l)) (.tup []) (stO (bLL true l)) := Jo5 u l
 refine JaV [100663376, 100663377] g ?_ ?_ ?_ ?_ ?_ ?_ ?_ (hsp := λ id h _ => L0y.2 h)
 . simp -implicitDefEqProofs (disch := omega) only [go_sem]
 . simp -implicitDefEqProofs (disch := omega) only [go_sem]
 . simp -implicitDefEqProofs (disch := omega) only [go_sem]
 . simp -implicitDefEqProofs (disch := omega) only [go_sem]
 . cases u <;> simp -implicitDefEqProofs (disch := omega) only [go_sem]
 . simp -implicitDefEqProofs (disch := omega) only [go_sem]
 . simp -implicitDefEqProofs (disch := omega) only [go_sem, L0a, f, results85, L05, and_self]
theorem Jog (u : Bool) (s : ByteArray) (i : s.size ≠ 0) (j : s.size <= 100000000) : LOK prog 86 (inI [100663376]) [.ptr 100663376 2 0 0] (stO (bLL u (bI s))) (Str s) (stO [(100663376, ⟨184, 2, [.agg [bPL u, .any]]⟩), (100663377, ⟨5, 1, []⟩)]) := by
 refine Jbc [] [100663376] func86 rfl (by kernel_rfl) mo (nb rfl) rfl (by kernel_rfl) (by kernel_rfl) ?_
 have f := Jao s
 obtain ⟨m, g⟩ : ∃ m, s.size = m + 1 := ⟨s.size - 1, by omega⟩
 simp -implicitDefEqProofs (disch := omega) only [go_sem, ntmps86, f, g]
 refine JcK (e := 5) (id := 100663377) s (by simp -implicitDefEqProofs (disch := omega) only [go_sem, f, g]) (by simp -implicitDefEqProofs (disch := omega) only [go_sem, f, g]) (by simp -implicitDefEqProofs (disch := omega) only [go_sem, f, g]) (by omega) rfl (by decide +kernel) (by simp -implicitDefEqProofs (disch := omega) only [go_sem]) (by omega) ?_
 cases u <;> simp -implicitDefEqProofs (disch := omega) only [go_sem, results86]
def Ch.ok (c : Ch) : Prop := 0 <= c.p /\ c.p <= 7 /\ 0 <= c.q /\ c.q <= 7 /\ 0 <= c.a /\ c.a <= 1000000000 /\ 0 <= c.h /\ c.h <= 63 /\ c.t.size <= 100
def payS (s : List Int) (c : Ch) : List Int := s.set c.p.toNat (gd s c.p.toNat - c.a)
def Jdn (s : List Int) (c : Ch) : List Int := (payS s c).set c.q.toNat (gd (payS s c) c.q.toNat + c.a)
def JaD (l : List Ch) : List Int := l.foldl Jdn (List.replicate 8 0)
theorem JeB (s : List Int) (c : Ch) : (payS s c).length = s.length := by simp [payS]
theorem Jbw (s : List Int) (c : Ch) : (Jdn s c).length = s.length := by simp [Jdn, payS]
theorem JfU (l : List Ch) (c : Ch) : JaD (l ++ [c]) = Jdn (JaD l) c := by simp [JaD, List.foldl_append]
theorem JjU {s : List Int} {i : Nat} {x B : Int} (h : ∀ j, -B <= gd s j /\ gd s j <= B) (g : -B <= x /\ x <= B) (j : Nat) : -B <= gd (s.set i x) j /\ gd (s.set i x) j <= B := by
 have f := h j
 by_cases hij : i = j
 . subst hij
   by_cases hl : i < s.length
   . rw [Jej _ _ _ _ hl, if_pos rfl]; exact g
   . rw [List.set_eq_of_length_le (by omega)]; exact f
 . have : gd (s.set i x) j = gd s j := by unfold gd; rw [L0U, L0U, List.getElem?_set_ne hij]
   rw [this]; exact f
theorem Jjb {s : List Int} {c : Ch} {B : Int} (h : ∀ j, -B <= gd s j /\ gd s j <= B) (f : c.ok) : ∀ j, -(B + 1000000000) <= gd (payS s c) j /\ gd (payS s c) j <= B + 1000000000 := by
 obtain ⟨_, _, _, _, g, i, _⟩ := f
 intro j
 refine JjU (λ j => ?_) ?_ j
 . have := h j; omega
 . have := h c.p.toNat; omega
theorem Jq5 {s : List Int} {c : Ch} {B : Int} (h : ∀ j, -B <= gd s j /\ gd s j <= B) (g : c.ok) : ∀ j, -(B + 2000000000) <= gd (Jdn s c) j /\ gd (Jdn s c) j <= B + 2000000000 := by
 have f := Jjb h g; obtain ⟨_, _, _, _, i, k, _⟩ := g
 intro j
 refine JjU (λ j => ?_) ?_ j
 . have := f j; omega
 . have := f c.q.toNat; omega
theorem JbR (l : List Ch) (g : ∀ c ∈ l, c.ok) : ∀ v, v <= l.length -> (JaD (l.take v)).length = 8 /\ ∀ j, -(2000000000 * (v : Int)) <= gd (JaD (l.take v)) j /\ gd (JaD (l.take v)) j <= 2000000000 * (v : Int)
 | 0, _ => ⟨rfl, λ j => by
  have : gd (JaD (l.take 0)) j = 0 := by
   rcases j with _ | _ | _ | _ | _ | _ | _ | _ | j <;> rfl
  rw [this]; simp⟩
 | v + 1, k => by
  have i := JbR l g v (by omega)
  have f : l.take (v + 1) = l.take v ++ [gd l v] := by rw [L0D, JaA l v (by omega)]; rfl
  rw [f, JfU]
  refine ⟨by rw [Jbw]; exact i.1, λ j => ?_⟩
  have := Jq5 i.2 (g _ (Jan l v (by omega))) j
  push_cast
  omega
set_option maxHeartbeats 1000000 in
theorem Jra (l : List Ch) (H : ∀ c ∈ l, c.ok) (O : l.length <= 1000) : Ev prog 40 [CL l] (.agg ((JaD l).map I)) := by
 refine EV func40 ?_
 simp -implicitDefEqProofs (disch := omega) only [go_sem, ntmps40]
 refine Jag (λ n E G => ∃ v : Nat, v + n = l.length /\ E 2 = .ptr 85983264 8 0 0 /\ E 3 = .ptr 85983280 8 0 0 /\ E 6 = CL l /\ E 7 = I l.length /\ E 8 = I v /\ G 85983264 = some ⟨122, 8, [.agg ((List.replicate 8 0).map I)]⟩ /\ G 85983280 = some ⟨122, 8, [.agg ((JaD (l.take v)).map I)]⟩) l.length ⟨0, by omega, ?_⟩ ?_
 . simp -implicitDefEqProofs (disch := omega) only [go_sem]
   exact ⟨rfl, rfl, rfl⟩
 . rintro n E G ⟨v, P, w, y, z, A, B, C, u⟩
   obtain ⟨g, j⟩ := JbR l H v (by omega)
   simp -implicitDefEqProofs (disch := omega) only [go_sem, w, y, z, A, B, C, u]
   refine Jab (λ L => ?_) (λ L => ?_)
   . have k := H _ (Jan l v (by omega))
     have f := Jjb j k; obtain ⟨Q, R, S, T, M, N, _⟩ := k
     have F : l.take (v + 1) = l.take v ++ [gd l v] := by rw [L0D, JaA l v (by omega)]; rfl
     have D : JaD (l.take (v + 1)) = Jdn (JaD (l.take v)) (gd l v) := by rw [F, JfU]
     generalize JaD (l.take v) = q at *; have J := j (gd l v).p.toNat; have K := f (gd l v).q.toNat
     have m : (payS q (gd l v)).length = 8 := by rw [JeB]; exact g
     have f : q.set (gd l v).p.toNat (gd q (gd l v).p.toNat - (gd l v).a) = payS q (gd l v) := rfl
     have i : (payS q (gd l v)).set (gd l v).q.toNat (gd (payS q (gd l v)) (gd l v).q.toNat + (gd l v).a) = Jdn q (gd l v) := rfl
     simp -implicitDefEqProofs (disch := omega) only [go_sem, w, y, z, A, B, C, u, g, m, f, i]
     refine Jad (n - 1) (by omega) ⟨v + 1, by omega, ?_⟩
     rw [D]; simp -implicitDefEqProofs (disch := omega) only [go_sem, w, y, z, A, B, C, u, g, m, f, i]
     simp
   . have e : v = l.length := by omega
     subst e; rw [L05] at u g j
     have o : (List.replicate 8 (0 : Int)).length = 8 := rfl
     simp -implicitDefEqProofs (disch := omega) only [go_sem, w, y, z, A, B, C, u, g, o, results40]
def JbM (l : List Int) : List Int := l.flatMap λ n => bI (viS n)
theorem JnV (l : List Int) (n : Int) : JbM (l ++ [n]) = JbM l ++ bI (viS n) := by simp [JbM]
theorem JdN (l : List Int) : (JbM l).length <= 10 * l.length := by
 induction l with
 | nil => simp [JbM]
 | cons a l i =>
  have g : (bI (viS a)).length <= 10 := by rw [Jao]; exact Jav a
  have f : JbM (a :: l) = bI (viS a) ++ JbM l := by simp [JbM]
  rw [f, L0a, L0c]; omega
set_option maxHeartbeats 1000000 in
theorem Jlx (u : Bool) (l : List Int) (f : List Int) (N : f.length <= 1000) (M : l.length <= 1000000) (J : ∀ n ∈ f, -4611686018427387903 <= n /\ n <= 4611686018427387903) (L : f.length ≠ 0) :
 LOK prog 83 (inI [184549424]) [.ptr 184549424 2 0 0, SL f] (stO (bLC u l)) (.tup []) (stO (bLC true (l ++ JbM f))) := by
 refine Jbc [] [184549424] func83 rfl (by kernel_rfl) mo (nb rfl) rfl (by kernel_rfl) (by kernel_rfl) ?_
 simp -implicitDefEqProofs (disch := omega) only [go_sem, ntmps83]
 refine Jag (λ n E z => ∃ v : Nat, v + n = f.length /\ E 0 = .ptr 184549424 2 0 0 /\ E 8 = SL f /\ E 9 = I f.length /\ E 10 = I v /\ z 184549424 = stO (bLC (u || decide (0 < v)) (l ++ JbM (f.take v))) 184549424 /\ z 184549425 = stO (bLC (u || decide (0 < v)) (l ++ JbM (f.take v))) 184549425) f.length ⟨0, by omega, ?_⟩ ?_
 . simp -implicitDefEqProofs (disch := omega) only [go_sem]
   cases u <;> simp [JbM]
 . rintro n E z ⟨v, P, g, m, o, i, j, k⟩
   have B := JdN (f.take v); rw [L01] at B
   have j : z 184549424 = some ⟨184, 2, [.agg [bPC (u || decide (0 < v)), .own 184549425 1 0 (l ++ JbM (f.take v)).length]]⟩ := j
   have k : z 184549425 = some ⟨5, 1, (l ++ JbM (f.take v)).map Y⟩ := k
   simp -implicitDefEqProofs (disch := omega) only [go_sem, g, m, o, i]
   refine Jab (λ G => ?_) (λ G => ?_)
   . have y := J _ (Jan f v (by omega))
     have K := Jav (gd f v)
     have D : f.take (v + 1) = f.take v ++ [gd f v] := by rw [L0D, JaA f v (by omega)]; rfl
     have w : l ++ JbM (f.take (v + 1)) = (l ++ JbM (f.take v)) ++ bI (viS (gd f v)) := by rw [D, JnV, L0J]
     have H : (l ++ JbM (f.take v)).length <= 2000000 := by rw [L0a]; omega
     generalize l ++ JbM (f.take v) = q at *; generalize O : (u || decide (0 < v)) = A at *; simp -implicitDefEqProofs (disch := omega) only [go_sem, g, m, o, i, j, k]
     refine Jaa (JcX (gd f v) y.1 y.2) ?_
     simp -implicitDefEqProofs (disch := omega) only [go_sem, g, m, o, i, j, k]
     refine Jak rfl ?_
     have F : LOK prog 85 (inI [184549424]) ([.ptr 184549424 2 0 0, Str (viS (gd f v))] ++ []) (stO (bLC A q)) (.tup [I (viS (gd f v)).size, .v .nilIface]) (stO (bLC true (q ++ bI (viS (gd f v))))) := JkN A q (viS (gd f v)) (by omega)
     refine JaV [184549424] F ?_ ?_ ?_ ?_ ?_ ?_ ?_ (hsp := λ id _ h => h)
     . simp -implicitDefEqProofs (disch := omega) only [go_sem]
     . simp -implicitDefEqProofs (disch := omega) only [go_sem, g, m, o, i]
     . cases A <;> simp -implicitDefEqProofs (disch := omega) only [go_sem, j, k]
     . simp -implicitDefEqProofs (disch := omega) only [go_sem]
     . cases A <;> simp -implicitDefEqProofs (disch := omega) only [go_sem]
     . simp -implicitDefEqProofs (disch := omega) only [go_sem]
     . simp -implicitDefEqProofs (disch := omega) only [go_sem, g, m, o, i, j, k]
       refine Jad (n - 1) (by omega) ⟨v + 1, by omega, ?_⟩
       rw [w, show (u || decide (0 < v + 1)) = true from by simp]
       simp -implicitDefEqProofs (disch := omega) only [go_sem, g, m, o, i, j, k]
       have C : l.length + (JbM (f.take (v + 1))).length = q.length + (bI (viS (gd f v))).length := by have := congrArg List.length w; simpa using this
       refine ⟨by simp, by rw [C]⟩
   . have e : v = f.length := by omega
     subst e
     rw [L05, show (u || decide (0 < f.length)) = true from by simp; omega] at j
     rw [L05] at k; simp -implicitDefEqProofs (disch := omega) only [go_sem, g, m, o, i, j, k, results83]
def Jbd (l : List Int) : List Int := l.flatMap λ n => bI (viS n)
theorem JnW (l : List Int) (n : Int) : Jbd (l ++ [n]) = Jbd l ++ bI (viS n) := by simp [Jbd]
theorem JbW (l : List Int) : (Jbd l).length <= 10 * l.length := by
 induction l with
 | nil => simp [Jbd]
 | cons a l i =>
  have g : (bI (viS a)).length <= 10 := by rw [Jao]; exact Jav a
  have f : Jbd (a :: l) = bI (viS a) ++ Jbd l := by simp [Jbd]
  rw [f, L0a, L0c]; omega
set_option maxHeartbeats 1000000 in
theorem Jha (u : Bool) (l : List Int) (f : List Int) (N : f.length <= 1000) (M : l.length <= 1000000) (J : ∀ n ∈ f, -4611686018427387903 <= n /\ n <= 4611686018427387903) (L : f.length ≠ 0) :
 LOK prog 83 (inI [100663376]) [.ptr 100663376 2 0 0, SL f] (stO (bLL u l)) (.tup []) (stO (bLL true (l ++ Jbd f))) := by
 refine Jbc [] [100663376] func83 rfl (by kernel_rfl) mo (nb rfl) rfl (by kernel_rfl) (by kernel_rfl) ?_
 simp -implicitDefEqProofs (disch := omega) only [go_sem, ntmps83]
 refine Jag (λ n E z => ∃ v : Nat, v + n = f.length /\ E 0 = .ptr 100663376 2 0 0 /\ E 8 = SL f /\ E 9 = I f.length /\ E 10 = I v /\ z 100663376 = stO (bLL (u || decide (0 < v)) (l ++ Jbd (f.take v))) 100663376 /\ z 100663377 = stO (bLL (u || decide (0 < v)) (l ++ Jbd (f.take v))) 100663377) f.length ⟨0, by omega, ?_⟩ ?_
 . simp -implicitDefEqProofs (disch := omega) only [go_sem]
   cases u <;> simp [Jbd]
 . rintro n E z ⟨v, P, g, m, o, i, j, k⟩
   have B := JbW (f.take v); rw [L01] at B
   have j : z 100663376 = some ⟨184, 2, [.agg [bPL (u || decide (0 < v)), .own 100663377 1 0 (l ++ Jbd (f.take v)).length]]⟩ := j
   have k : z 100663377 = some ⟨5, 1, (l ++ Jbd (f.take v)).map Y⟩ := k
   simp -implicitDefEqProofs (disch := omega) only [go_sem, g, m, o, i]
   refine Jab (λ G => ?_) (λ G => ?_)
   . have y := J _ (Jan f v (by omega))
     have K := Jav (gd f v)
     have D : f.take (v + 1) = f.take v ++ [gd f v] := by rw [L0D, JaA f v (by omega)]; rfl
     have w : l ++ Jbd (f.take (v + 1)) = (l ++ Jbd (f.take v)) ++ bI (viS (gd f v)) := by rw [D, JnW, L0J]
     have H : (l ++ Jbd (f.take v)).length <= 2000000 := by rw [L0a]; omega
     generalize l ++ Jbd (f.take v) = q at *; generalize O : (u || decide (0 < v)) = A at *; simp -implicitDefEqProofs (disch := omega) only [go_sem, g, m, o, i, j, k]
     refine Jaa (JcX (gd f v) y.1 y.2) ?_
     simp -implicitDefEqProofs (disch := omega) only [go_sem, g, m, o, i, j, k]
     refine Jak rfl ?_
     have F : LOK prog 85 (inI [100663376]) ([.ptr 100663376 2 0 0, Str (viS (gd f v))] ++ []) (stO (bLL A q)) (.tup [I (viS (gd f v)).size, .v .nilIface]) (stO (bLL true (q ++ bI (viS (gd f v))))) := JkO A q (viS (gd f v)) (by omega)
     refine JaV [100663376] F ?_ ?_ ?_ ?_ ?_ ?_ ?_ (hsp := λ id _ h => h)
     . simp -implicitDefEqProofs (disch := omega) only [go_sem]
     . simp -implicitDefEqProofs (disch := omega) only [go_sem, g, m, o, i]
     . cases A <;> simp -implicitDefEqProofs (disch := omega) only [go_sem, j, k]
     . simp -implicitDefEqProofs (disch := omega) only [go_sem]
     . cases A <;> simp -implicitDefEqProofs (disch := omega) only [go_sem]
     . simp -implicitDefEqProofs (disch := omega) only [go_sem]
     . simp -implicitDefEqProofs (disch := omega) only [go_sem, g, m, o, i, j, k]
       refine Jad (n - 1) (by omega) ⟨v + 1, by omega, ?_⟩
       rw [w, show (u || decide (0 < v + 1)) = true from by simp]
       simp -implicitDefEqProofs (disch := omega) only [go_sem, g, m, o, i, j, k]
       have C : l.length + (Jbd (f.take (v + 1))).length = q.length + (bI (viS (gd f v))).length := by have := congrArg List.length w; simpa using this
       refine ⟨by simp, by rw [C]⟩
   . have e : v = f.length := by omega
     subst e
     rw [L05, show (u || decide (0 < f.length)) = true from by simp; omega] at j
     rw [L05] at k; simp -implicitDefEqProofs (disch := omega) only [go_sem, g, m, o, i, j, k, results83]
abbrev TT (s : List Int) (d : ByteArray) : AV := .agg (s.map I ++ [Str d])
theorem Jh2 (p : Nat -> Bool) : ∀ (l m : List AV), AV.namesL p l = false -> AV.namesL p m = false -> AV.namesL p (l ++ m) = false
 | [], m, _, h => h
 | c :: l, m, f, g => by
  simp only [AV.namesL, L1w, L0K] at f ⊢
  exact ⟨f.1, Jh2 p l m f.2 g⟩
@[go_sem] theorem Jqe (p : Nat -> Bool) (s : List Int) (d : ByteArray) : AV.namesL p (s.map I ++ [Str d]) = false := Jh2 p _ _ (Jaj p s I λ _ => rfl) rfl
@[go_sem] theorem Jr4 (s : List Int) (d : ByteArray) : AV.flatL (s.map I ++ [Str d]) = true := by
 rw [AV.flatL_iff]; intro c hc
 rcases L0t.1 hc with h | h
 . obtain ⟨x, _, rfl⟩ := L04.1 h; rfl
 . simp at h; subst h; rfl
theorem Jir (s : List Int) (d : ByteArray) : ∀ a ∈ (TT s d).cells, a.cells = [a] := by
 intro a ha
 rcases L0t.1 ha with h | h
 . obtain ⟨x, _, rfl⟩ := L04.1 h; rfl
 . simp at h; subst h; rfl
def numS : List Int -> ByteArray
 | [] => ⟨#[]⟩
 | n :: l => viS n ++ numS l
def Jb2 (s : List Int) (d : ByteArray) : ByteArray := numS s ++ d
theorem Jbi (a b : ByteArray) : bI (a ++ b) = bI a ++ bI b := by
 unfold bI; rw [L2t]; simp
theorem Jg9 : ∀ l, bI (numS l) = JbM l
 | [] => rfl
 | n :: l => by rw [numS, Jbi, Jg9 l]; simp [JbM]
theorem JdO (l : List Int) : (numS l).size <= 10 * l.length := by
 rw [<- Jao, Jg9]; exact JdN l
set_option maxHeartbeats 1000000 in
theorem Jk3 (s : List Int) (d : ByteArray) (f : s.length = 8) (B : ∀ n ∈ s, -4611686018427387903 <= n /\ n <= 4611686018427387903) (D : d.size = 32) : Ev prog 87 [TT s d] (Str (Jb2 s d)) := by
 refine EV func87 ?_
 simp -implicitDefEqProofs (disch := omega) only [go_sem, ntmps87, f]
 refine Jcj [184549392] ?_
 refine Jcs (c := TT s d) (j := 0) (m := 8) 0 8 (by simp -implicitDefEqProofs (disch := omega) only [go_sem]) Jdq Jtb (by simp [f]) ⟨rfl, rfl, by omega, by omega⟩ ?_ (Jir s d)
 have o : ((TT s d).cells.drop (0 + 0)).take (8 - 0) = s.map I := by
  show (s.map I ++ [Str d]).take 8 = s.map I
  rw [L1N (by simp [f]), L03 (by simp [f])]
 rw [o]; simp -implicitDefEqProofs (disch := omega) only [go_sem]; have C := JdN s
 refine Jak rfl ?_
 refine Jd2 184549424 184549425 0 1 5 1 (k := ⟨184, 2, [.agg [.v (.pointer none), .v (.slice none 0 0)]]⟩) (el := .agg [.v (.pointer none), .v (.slice none 0 0)]) (by simp -implicitDefEqProofs (disch := omega) only [go_sem]) (by decide) rfl rfl (by decide) (by simp -implicitDefEqProofs (disch := omega) only [go_sem]) rfl ?_
 have w : LOK prog 83 (inI [184549424]) ([.ptr 184549424 2 0 0, SL s] ++ []) (stO (bLC false [])) (.tup []) (stO (bLC true (JbM s))) := Jlx false [] s (by omega) (by simp) B (by omega)
 refine JaV [184549424] w ?_ ?_ ?_ ?_ ?_ ?_ ?_
 . simp -implicitDefEqProofs (disch := omega) only [go_sem]
 . simp -implicitDefEqProofs (disch := omega) only [go_sem]
 . simp -implicitDefEqProofs (disch := omega) only [go_sem]
   simp
 . simp -implicitDefEqProofs (disch := omega) only [go_sem]
 . simp -implicitDefEqProofs (disch := omega) only [go_sem]
 . simp -implicitDefEqProofs (disch := omega) only [go_sem]
 . have u : (s.map I ++ [Str d])[8]? = some (Str d) := by rw [L0p (by simp [f])]; simp [f]
   simp -implicitDefEqProofs (disch := omega) only [go_sem, u]
   refine Jak rfl ?_
   have g : LOK prog 85 (inI [184549424]) ([.ptr 184549424 2 0 0, Str d] ++ []) (stO (bLC true (JbM s))) (.tup [I d.size, .v .nilIface]) (stO (bLC true (JbM s ++ bI d))) := JkN true (JbM s) d (by omega)
   refine JaV [184549424] g ?_ ?_ ?_ ?_ ?_ ?_ ?_
   . simp -implicitDefEqProofs (disch := omega) only [go_sem]
   . simp -implicitDefEqProofs (disch := omega) only [go_sem]
   . simp -implicitDefEqProofs (disch := omega) only [go_sem]
   . simp -implicitDefEqProofs (disch := omega) only [go_sem]
   . simp -implicitDefEqProofs (disch := omega) only [go_sem]
   . simp -implicitDefEqProofs (disch := omega) only [go_sem]
   . have y : bI (Jb2 s d) = JbM s ++ bI d := by unfold Jb2; rw [Jbi, Jg9]
     have z : (Jb2 s d).size = (numS s).size + d.size := by unfold Jb2; rw [L0u]
     have A := JdO s; rw [<- y]; simp -implicitDefEqProofs (disch := omega) only [go_sem]
     refine Jak rfl ?_
     have i : LOK prog 86 (inI [184549424]) ([.ptr 184549424 2 0 0] ++ []) (stO (bLC true (bI (Jb2 s d)))) (Str (Jb2 s d)) (stO [(184549424, ⟨184, 2, [.agg [bPC true, .any]]⟩), (184549425, ⟨5, 1, []⟩)]) := Jof true (Jb2 s d) (by omega) (by omega)
     refine JaV [184549424] i ?_ ?_ ?_ ?_ ?_ ?_ ?_
     . simp -implicitDefEqProofs (disch := omega) only [go_sem]
     . simp -implicitDefEqProofs (disch := omega) only [go_sem]
     . simp -implicitDefEqProofs (disch := omega) only [go_sem]
     . simp -implicitDefEqProofs (disch := omega) only [go_sem]
     . simp -implicitDefEqProofs (disch := omega) only [go_sem]
     . simp -implicitDefEqProofs (disch := omega) only [go_sem]
     . simp -implicitDefEqProofs (disch := omega) only [go_sem, results87]
@[go_sem high] theorem JCq (s : List Int) (d : ByteArray) (j : Nat) (x : Int) (f : j < s.length) : setC (.agg (s.map I ++ [Str d])) j (I x) = .agg ((s.set j x).map I ++ [Str d]) := by
 have g : s ≠ [] := by intro h; rw [h] at f; cases f
 rw [Ji6, if_neg (by simp [g])]
 congr 1
 simp only [AV.cells_agg, AV.cells_v, L18]
 rw [L2b, if_pos f, L1N (by simp; omega), List.drop_append_of_le_length (by simp; omega)]
 simp
@[go_sem] theorem get_TT (s : List Int) (d : ByteArray) (j : Nat) (f : j < s.length) : (s.map I ++ [Str d])[j]? = some (I (gd s j)) := by
 rw [L0n (by simpa using f), L06, JaA s j f]; rfl
def Jfw (s t : List Int) : List Int := (List.range 8).map λ j => gd s j + gd t j
def Jj0 (s t : List Int) (v : Nat) : List Int := (List.range 8).map λ j => if j < v then gd s j + gd t j else 0
theorem JcC (s t : List Int) (v : Nat) : (Jj0 s t v).length = 8 := by simp [Jj0]
theorem JbV (s t : List Int) : (Jfw s t).length = 8 := by simp [Jfw]
theorem Jms (s t : List Int) (v j : Nat) (f : j < 8) : gd (Jj0 s t v) j = if j < v then gd s j + gd t j else 0 := by
 unfold Jj0 gd; simp [L0U, f]
theorem JpU (s t : List Int) (v : Nat) (g : v < 8) : (Jj0 s t v).set v (gd s v + gd t v) = Jj0 s t (v + 1) := JeU (by simp [JcC]) λ j f => by
 rw [L1S, JcC] at f
 rw [Jej _ _ _ _ (by rw [JcC]; exact g), Jms _ _ _ _ f, Jms _ _ _ _ f]
 by_cases e : j = v
 . subst e; simp
 . simp only [e, if_false, show j < v ↔ j < v + 1 from by omega]
theorem JpT (s t : List Int) : Jj0 s t 8 = Jfw s t := L0R λ j f => by simp at f; simp [f]
set_option maxHeartbeats 1000000 in
theorem JuU (s t : List Int) (d e : ByteArray) (j : s.length = 8) (i : t.length = 8) (O : ∀ n ∈ s, -2000000000000000000 <= n /\ n <= 2000000000000000000) (M : ∀ n ∈ t, -2000000000000000000 <= n /\ n <= 2000000000000000000) (T : d.size = 32) (U : e.size = 32) :
 Ev prog 49 [TT s d, TT t e] (TT (Jfw s t) (Ja2 (Jb2 s d) (Jb2 t e))) := by
 refine EV func49 ?_
 have R : (Jb2 s d).size <= 1000 := by have := JdO s; unfold Jb2; rw [L0u]; omega
 have S : (Jb2 t e).size <= 1000 := by have := JdO t; unfold Jb2; rw [L0u]; omega
 have g : (s.map I ++ [Str d]).take 9 = s.map I ++ [Str d] := L03 (by simp [j])
 have f : (t.map I ++ [Str e]).take 9 = t.map I ++ [Str e] := L03 (by simp [i])
 simp -implicitDefEqProofs (disch := omega) only [go_sem, ntmps49, j, i, g, f]
 refine Jaa (Jk3 s d j (λ n K => by have := O n K; omega) T) ?_
 simp -implicitDefEqProofs (disch := omega) only [go_sem, j, i, g, f]
 refine Jaa (Jk3 t e i (λ n K => by have := M n K; omega) U) ?_
 simp -implicitDefEqProofs (disch := omega) only [go_sem, j, i, g, f]
 refine Jaa (Jew (Jb2 s d) (Jb2 t e) (by omega)) ?_
 simp -implicitDefEqProofs (disch := omega) only [go_sem, j, i, g, f]; generalize Ja2 (Jb2 s d) (Jb2 t e) = N
 refine Jag (λ n E z => ∃ v : Nat, v + n = 8 /\ E 2 = .ptr 104857632 9 0 0 /\ E 3 = .ptr 104857648 9 0 0 /\ E 4 = .ptr 104857664 9 0 0 /\ E 5 = .ptr 104857680 9 0 0 /\ E 13 = I v /\ z 104857632 = some ⟨125, 9, [TT s d]⟩ /\ z 104857648 = some ⟨125, 9, [TT t e]⟩ /\ z 104857664 = some ⟨125, 9, [TT (List.replicate 8 0) ⟨#[]⟩]⟩ /\ z 104857680 = some ⟨125, 9, [TT (Jj0 s t v) N]⟩) 8 ⟨0, by omega, ?_⟩ ?_
 . simp -implicitDefEqProofs (disch := omega) only [go_sem, j, i, g, f]
   exact ⟨rfl, rfl, rfl⟩
 . rintro n E z ⟨v, X, A, B, C, D, k, F, G, H, J⟩
   have u := JcC s t v; simp -implicitDefEqProofs (disch := omega) only [go_sem, A, B, C, D, k, F, G, H, J]
   refine Jab (λ Q => ?_) (λ Q => ?_)
   . have V := O _ (Jan s v (by omega))
     have W := M _ (Jan t v (by omega))
     have m := JpU s t v (by omega)
     simp -implicitDefEqProofs (disch := omega) only [go_sem, A, B, C, D, k, F, G, H, J, j, i, u, m]
     refine Jad (n - 1) (by omega) ⟨v + 1, by omega, ?_⟩
     simp -implicitDefEqProofs (disch := omega) only [go_sem, A, B, C, D, k, F, G, H, J, j, i, u, m]
     simp
   . have P : v = 8 := by omega
     subst P; have o := JpT s t
     have y : (List.replicate 8 (0 : Int)).length = 8 := rfl
     have w := JbV s t
     have L : ((Jfw s t).map I ++ [Str N]).take 9 = (Jfw s t).map I ++ [Str N] := L03 (by simp [w])
     simp -implicitDefEqProofs (disch := omega) only [go_sem, A, B, C, D, k, F, G, H, J, j, i, o, y, w, L, results49]
def chB (c : Ch) : List Int := Jbd [c.p, c.q, c.a] ++ bI (viS c.t.size ++ c.t)
def chsB (l : List Ch) : List Int := Jbd [(l.length : Int)] ++ l.flatMap chB
theorem Jni (c : Ch) (h : c.ok) : (chB c).length <= 140 := by
 have f := JbW [c.p, c.q, c.a]
 have g := Jav (c.t.size : Int)
 obtain ⟨_, _, _, _, _, _, _, _, i⟩ := h
 unfold chB; rw [L0a, Jao, L0u]
 simp at f; omega
theorem Jda : ∀ (l : List Ch), (∀ c ∈ l, c.ok) -> (l.flatMap chB).length <= 140 * l.length
 | [], _ => by simp
 | c :: l, h => by
  have g := Jni c (h c (by simp))
  have i := Jda l λ c f => h c (by simp [f])
  rw [L1s, L0a, L0c]; omega
theorem JuC : ∀ k z, 1 <= (grp k z).length
 | 0, z => by simp [grp]
 | k + 1, z => by unfold grp; split <;> simp
set_option maxHeartbeats 2000000 in
theorem Js9 (m : ByteArray) (l : List Ch) (hs : m.size = 32) (K : ∀ c ∈ l, c.ok) (T : l.length <= 1000) (F : ByteArray) (P : bI F = chsB l) :
 Ev prog 47 [Str m, CL l] (TT (JaD l) (JaK (Jb2 (JaD l) (Ja2 m (JaK F))))) := by
 refine EV func47 ?_
 simp -implicitDefEqProofs (disch := omega) only [go_sem, ntmps47]
 refine Jak rfl ?_
 refine Jcj [100663504] ?_
 refine Jd2 100663376 100663377 0 1 5 1 (k := ⟨184, 2, [.agg [.v (.pointer none), .v (.slice none 0 0)]]⟩) (el := .agg [.v (.pointer none), .v (.slice none 0 0)]) (by simp -implicitDefEqProofs (disch := omega) only [go_sem]) (by decide) rfl rfl (by decide) (by simp -implicitDefEqProofs (disch := omega) only [go_sem]) rfl ?_
 have V : LOK prog 83 (inI [100663376]) ([.ptr 100663376 2 0 0, SL [(l.length : Int)]] ++ []) (stO (bLL false [])) (.tup []) (stO (bLL true (Jbd [(l.length : Int)]))) := Jha false [] [(l.length : Int)] (by simp) (by simp) (by simp; omega) (by simp)
 refine JaV [100663376] V ?_ ?_ ?_ ?_ ?_ ?_ ?_
 . simp -implicitDefEqProofs (disch := omega) only [go_sem]
 . simp -implicitDefEqProofs (disch := omega) only [go_sem]
   rfl
 . simp -implicitDefEqProofs (disch := omega) only [go_sem]
   simp
 . simp -implicitDefEqProofs (disch := omega) only [go_sem]
 . simp -implicitDefEqProofs (disch := omega) only [go_sem]
 . simp -implicitDefEqProofs (disch := omega) only [go_sem]
 . simp -implicitDefEqProofs (disch := omega) only [go_sem]
   refine Jag (λ n E U => ∃ v : Nat, v + n = l.length /\ E 0 = Str m /\ E 1 = CL l /\ E 4 = .ptr 100663360 9 0 0 /\ E 5 = .ptr 100663376 2 0 0 /\ E 15 = CL l /\ E 16 = I l.length /\ E 17 = I v /\ U 100663360 = some ⟨125, 9, [.agg [I 0, I 0, I 0, I 0, I 0, I 0, I 0, I 0, Str ⟨#[]⟩]]⟩ /\ U 100663376 = some ⟨184, 2, [.agg [.ptr 100663376 2 0 0, .own 100663377 1 0 (Jbd [(l.length : Int)] ++ (l.take v).flatMap chB).length]]⟩ /\ U 100663377 = some ⟨5, 1, (Jbd [(l.length : Int)] ++ (l.take v).flatMap chB).map Y⟩) l.length ⟨0, by omega, ?_⟩ ?_
   . simp -implicitDefEqProofs (disch := omega) only [go_sem, L1C, List.flatMap_nil, L0C]
     exact ⟨rfl, rfl⟩
   . rintro n E U ⟨v, hv, y, z, A, B, f, g, j, C, o, u⟩
     simp -implicitDefEqProofs (disch := omega) only [go_sem, y, z, A, B, f, g, j, C, o, u]
     refine Jab (λ hc => ?_) (λ hc => ?_)
     . have ac := K _ (Jan l v (by omega))
       have af : (Jbd [(l.length : Int)] ++ (l.take v).flatMap chB).length <= 500000 := by
        have a1 := JbW [(l.length : Int)]
        have a2 := Jda (l.take v) λ c hc => K c (L0H hc)
        rw [L01] at a2; rw [L0a]; simp only [L0c, L0w] at a1; omega
       have ad : l.take (v + 1) = l.take v ++ [gd l v] := by rw [L0D, JaA l v (by omega)]; rfl
       have H : Jbd [(l.length : Int)] ++ (l.take (v + 1)).flatMap chB = (Jbd [(l.length : Int)] ++ (l.take v).flatMap chB) ++ chB (gd l v) := by rw [ad, L2q, L0J]; simp
       generalize Jbd [(l.length : Int)] ++ (l.take v).flatMap chB = q at *; obtain ⟨p1, p2, q1, q2, a1, a2, _, _, ht⟩ := ac; have R := JbW [(gd l v).p, (gd l v).q, (gd l v).a]; simp only [L0c, L0w] at R
       have ai := Jav ((gd l v).t.size : Int)
       simp -implicitDefEqProofs (disch := omega) only [go_sem, y, z, A, B, f, g, j, C, o, u]
       refine Jak rfl ?_
       refine Jcj [100663728] ?_
       have V : LOK prog 83 (inI [100663376]) ([.ptr 100663376 2 0 0, SL [(gd l v).p, (gd l v).q, (gd l v).a]] ++ []) (stO (bLL true q)) (.tup []) (stO (bLL true (q ++ Jbd [(gd l v).p, (gd l v).q, (gd l v).a]))) := Jha true q _ (by simp) (by omega) (by intro n T; simp at T; rcases T with rfl | rfl | rfl <;> omega) (by simp)
       have L : chB (gd l v) = Jbd [(gd l v).p, (gd l v).q, (gd l v).a] ++ bI (viS ((gd l v).t.size : Int) ++ (gd l v).t) := rfl
       generalize Jbd [(gd l v).p, (gd l v).q, (gd l v).a] = q3 at *
       refine JaV [100663376] V ?_ ?_ ?_ ?_ ?_ ?_ ?_
       . simp -implicitDefEqProofs (disch := omega) only [go_sem, y, z, A, B, f, g, j, C, o, u]
       . simp -implicitDefEqProofs (disch := omega) only [go_sem, y, z, A, B, f, g, j, C, o, u]
         rfl
       . simp -implicitDefEqProofs (disch := omega) only [go_sem, y, z, A, B, f, g, j, C, o, u]
       . simp -implicitDefEqProofs (disch := omega) only [go_sem]
       . simp -implicitDefEqProofs (disch := omega) only [go_sem]
       . simp -implicitDefEqProofs (disch := omega) only [go_sem]
       . simp -implicitDefEqProofs (disch := omega) only [go_sem, y, z, A, B, f, g, j, C, o, u]
         refine Jaa (Jqy (gd l v).t (by omega)) ?_
         have aj : (viS ((gd l v).t.size : Int) ++ (gd l v).t).size <= 200 := by rw [L0u]; omega
         rw [L] at H; generalize viS ((gd l v).t.size : Int) ++ (gd l v).t = w at *; simp -implicitDefEqProofs (disch := omega) only [go_sem, y, z, A, B, f, g, j, C, o, u]
         refine Jak rfl ?_
         have W : LOK prog 85 (inI [100663376]) ([.ptr 100663376 2 0 0, Str w] ++ []) (stO (bLL true (q ++ q3))) (.tup [I w.size, .v .nilIface]) (stO (bLL true (q ++ q3 ++ bI w))) := JkO true (q ++ q3) w (by rw [L0a]; omega)
         refine JaV [100663376] W ?_ ?_ ?_ ?_ ?_ ?_ ?_
         . simp -implicitDefEqProofs (disch := omega) only [go_sem, y, z, A, B, f, g, j, C, o, u]
         . simp -implicitDefEqProofs (disch := omega) only [go_sem, y, z, A, B, f, g, j, C, o, u]
         . simp -implicitDefEqProofs (disch := omega) only [go_sem, y, z, A, B, f, g, j, C, o, u]
         . simp -implicitDefEqProofs (disch := omega) only [go_sem]
         . simp -implicitDefEqProofs (disch := omega) only [go_sem]
         . simp -implicitDefEqProofs (disch := omega) only [go_sem]
         . simp -implicitDefEqProofs (disch := omega) only [go_sem, y, z, A, B, f, g, j, C, o, u]
           refine Jad (n - 1) (by omega) ⟨v + 1, by omega, ?_⟩
           rw [H, <- L0J]; simp -implicitDefEqProofs (disch := omega) only [go_sem, y, z, A, B, f, g, j, C, o, u]; have Q := congrArg List.length H; simp only [L0a] at Q
           refine ⟨by simp, ?_⟩
           rw [Q, L0I]
     . have e : v = l.length := by omega
       subst e; rw [L05] at o u; have L := Jda l K
       have ab := JbW [(l.length : Int)]
       simp only [L0c, L0w] at ab
       have ag : F.size = (chsB l).length := by rw [<- P, Jao]
       have ae : (chsB l).length <= 200000 := by unfold chsB; rw [L0a]; omega
       have O : F.size ≠ 0 := by
        have hz : 1 <= (chsB l).length := by
         have hp : 1 <= (bI (viS (l.length : Int))).length := by
          rw [Jao, viS, strOfNums_size]; unfold viB; rw [L0b]; exact JuC _ _
         have hq : (Jbd [(l.length : Int)]).length = (bI (viS (l.length : Int))).length := by simp [Jbd]
         unfold chsB; rw [L0a]; omega
        omega
       rw [show Jbd [(l.length : Int)] ++ l.flatMap chB = bI F from P.symm] at o u
       simp -implicitDefEqProofs (disch := omega) only [go_sem, y, z, A, B, f, g, j, C, o, u]
       refine Jaa (Jra l K T) ?_
       simp -implicitDefEqProofs (disch := omega) only [go_sem, y, z, A, B, f, g, j, C, o, u]
       refine Jak rfl ?_
       have X : LOK prog 86 (inI [100663376]) ([.ptr 100663376 2 0 0] ++ []) (stO (bLL true (bI F))) (Str F) (stO [(100663376, ⟨184, 2, [.agg [bPL true, .any]]⟩), (100663377, ⟨5, 1, []⟩)]) := Jog true F O (by omega)
       refine JaV [100663376] X ?_ ?_ ?_ ?_ ?_ ?_ ?_
       . simp -implicitDefEqProofs (disch := omega) only [go_sem, y, z, A, B, f, g, j, C, o, u]
       . simp -implicitDefEqProofs (disch := omega) only [go_sem, y, z, A, B, f, g, j, C, o, u]
       . simp -implicitDefEqProofs (disch := omega) only [go_sem, y, z, A, B, f, g, j, C, o, u]
       . simp -implicitDefEqProofs (disch := omega) only [go_sem]
       . simp -implicitDefEqProofs (disch := omega) only [go_sem]
       . simp -implicitDefEqProofs (disch := omega) only [go_sem]
       . have D : (JaD l).length = 8 := by have := (JbR l K l.length (L08 _)).1; rwa [L05] at this
         simp -implicitDefEqProofs (disch := omega) only [go_sem, y, z, A, B, f, g, j, C, o, u]
         refine Jaa (Jfy F (by omega)) ?_
         simp -implicitDefEqProofs (disch := omega) only [go_sem, y, z, A, B, f, g, j, C, o, u]
         refine Jaa (Jew m (JaK F) (by rw [Jbg]; omega)) ?_
         have G : ∀ M N : ByteArray, List.take 8 ((JaD l).map I ++ [Str M]) ++ [Str N] ++ List.drop 9 ((JaD l).map I ++ [Str M]) = (JaD l).map I ++ [Str N] := λ M N => by
          rw [L1N (by simp [D]), L03 (by simp [D]), L2k (by simp [D])]; simp
         have J : ∀ N : ByteArray, ((JaD l).map I ++ [Str N]).take 9 = (JaD l).map I ++ [Str N] := λ N => L03 (by simp [D])
         have S := (JbR l K l.length (L08 _)).2; rw [L05] at S; simp -implicitDefEqProofs (disch := omega) only [go_sem, y, z, A, B, f, g, j, C, o, u, D, G, J]; have Z := Jbt m (JaK F)
         refine Jaa (Jk3 (JaD l) (Ja2 m (JaK F)) D ?_ Z) ?_
         . intro n aa
           obtain ⟨i, hi, rfl⟩ := L1h.1 aa
           have := S i
           have hg : gd (JaD l) i = (JaD l)[i] := by unfold gd; simp [hi]
           rw [hg] at this; omega
         have ah : (Jb2 (JaD l) (Ja2 m (JaK F))).size <= 1000 := by have := JdO (JaD l); unfold Jb2; rw [L0u]; omega
         simp -implicitDefEqProofs (disch := omega) only [go_sem, y, z, A, B, f, g, j, C, o, u, D, G, J]
         refine Jaa (Jfy (Jb2 (JaD l) (Ja2 m (JaK F))) (by omega)) ?_
         simp -implicitDefEqProofs (disch := omega) only [go_sem, y, z, A, B, f, g, j, C, o, u, D, G, J, and_self, if_false, results47]
def chS (c : Ch) : ByteArray := numS [c.p, c.q, c.a] ++ (viS c.t.size ++ c.t)
def chsS : List Ch -> ByteArray
 | [] => ⟨#[]⟩
 | c :: l => chS c ++ chsS l
def Jcw (l : List Ch) : ByteArray := numS [(l.length : Int)] ++ chsS l
theorem JmG (l : List Int) : Jbd l = JbM l := rfl
theorem JxA (c : Ch) : bI (chS c) = chB c := by unfold chS chB; rw [Jbi, Jg9, JmG]
theorem Jk2 : ∀ l, bI (chsS l) = l.flatMap chB
 | [] => rfl
 | c :: l => by rw [chsS, Jbi, JxA, Jk2 l, L1s]
theorem JrX (l : List Ch) : bI (Jcw l) = chsB l := by unfold Jcw chsB; rw [Jbi, Jg9, Jk2, JmG]
def JtW (f : ByteArray) (l : List Ch) : ByteArray := JaK (Jb2 (JaD l) (Ja2 f (JaK (Jcw l))))
theorem Js8 (f : ByteArray) (l : List Ch) (j : f.size = 32) (g : ∀ c ∈ l, c.ok) (i : l.length <= 1000) : Ev prog 47 [Str f, CL l] (TT (JaD l) (JtW f l)) :=
 Js9 f l j g i (Jcw l) (JrX l)
def inF (n lo hi : Int) : Bool := decide (lo <= n /\ n <= hi)
theorem Jb0 (n lo hi : Int) : Ev prog 32 [I n, I lo, I hi] (B (inF n lo hi)) := by
 refine EV func32 ?_
 simp -implicitDefEqProofs (disch := omega) only [go_sem, ntmps32]
 refine Jab (λ h => ?_) (λ h => ?_) <;> simp -implicitDefEqProofs (disch := omega) only [go_sem, results32]
 . simp [inF, h]
 . simp [inF, h]
def chOK (c : Ch) : Bool := inF c.p 0 7 && inF c.q 0 7 && decide (c.p ≠ c.q) && inF c.h 0 63 && inF c.a 0 1000000000 && decide (c.t.size <= 100)
theorem Jo3 (c : Ch) (h : chOK c = true) : c.ok := by
 simp only [chOK, inF, L00, decide_eq_true_eq] at h
 unfold Ch.ok; omega
theorem JgZ (c : Ch) : Ev prog 33 [CH c] (B (chOK c)) := by
 refine EV func33 ?_
 simp -implicitDefEqProofs (disch := omega) only [go_sem, ntmps33]; unfold chOK
 refine Jaa (Jb0 c.p 0 7) ?_
 generalize inF c.p 0 7 = f; simp -implicitDefEqProofs (disch := omega) only [go_sem]
 cases f
 . simp -implicitDefEqProofs (disch := omega) only [go_sem, results33]
 simp -implicitDefEqProofs (disch := omega) only [go_sem]
 refine Jaa (Jb0 c.q 0 7) ?_
 generalize inF c.q 0 7 = g; simp -implicitDefEqProofs (disch := omega) only [go_sem]
 cases g
 . simp -implicitDefEqProofs (disch := omega) only [go_sem, results33]
 simp -implicitDefEqProofs (disch := omega) only [go_sem]
 by_cases hpq : c.p = c.q
 . simp -implicitDefEqProofs (disch := omega) only [go_sem, hpq, results33]
 simp -implicitDefEqProofs (disch := omega) only [go_sem, hpq]
 refine Jaa (Jb0 c.h 0 63) ?_
 generalize inF c.h 0 63 = i; simp -implicitDefEqProofs (disch := omega) only [go_sem, hpq]
 cases i
 . simp -implicitDefEqProofs (disch := omega) only [go_sem, hpq, results33]
 simp -implicitDefEqProofs (disch := omega) only [go_sem, hpq]
 refine Jaa (Jb0 c.a 0 1000000000) ?_
 generalize inF c.a 0 1000000000 = j; simp -implicitDefEqProofs (disch := omega) only [go_sem, hpq]
 cases j
 . simp -implicitDefEqProofs (disch := omega) only [go_sem, hpq, results33]
 simp -implicitDefEqProofs (disch := omega) only [go_sem, hpq, results33]
 rw [show decide ((c.t.size : Int) <= 100) = decide (c.t.size <= 100) from decide_eq_decide.2 (by omega)]
theorem Jnk (c : Ch) : Ev prog 75 [CH c] (B (!chOK c)) := by
 refine EV func75 ?_
 simp -implicitDefEqProofs (disch := omega) only [go_sem, ntmps75]
 refine Jaa (JgZ c) ?_
 simp -implicitDefEqProofs (disch := omega) only [go_sem, results75]
def Jgi (l : List Ch) (v : Nat) : Nat -> Int
 | 0 => -1
 | n + 1 => if chOK (gd l v) then Jgi l (v + 1) n else v
theorem JjK (l : List Ch) : ∀ n v, v + n = l.length -> (Jgi l v n < 0 ↔ ∀ i, v <= i -> i < l.length -> chOK (gd l i) = true)
 | 0, v, h => by simp only [Jgi]; constructor <;> intro _ <;> (try omega)
 | n + 1, v, h => by
  unfold Jgi
  split
  . rename_i hc
    rw [JjK l n (v + 1) (by omega)]
    constructor
    . intro hh i h1 h2
      rcases L1p v i with h3 | h3
      . exact hh i h3 h2
      . obtain rfl : i = v := by omega
        exact hc
    . intro hh i h1 h2; exact hh i (by omega) h2
  . rename_i hc
    constructor
    . intro hh; omega
    . intro hh; exact absurd (hh v (L08 _) (by omega)) hc
theorem JpL (l : List Ch) (y : l.length <= 1000000) : Ev prog 82 [CL l, .clo 75 []] (I (Jgi l 0 l.length)) := by
 refine EV func82 ?_
 simp -implicitDefEqProofs (disch := omega) only [go_sem, ntmps82]
 refine Jag (λ n E w => ∃ v : Nat, v + n = l.length /\ E 0 = CL l /\ E 1 = .clo 75 [] /\ E 7 = I l.length /\ E 8 = I v /\ Jgi l 0 l.length = Jgi l v n) l.length ⟨0, by omega, ?_⟩ ?_
 . simp -implicitDefEqProofs (disch := omega) only [go_sem]
   simp
 . rintro n E w ⟨v, z, g, i, j, k, f⟩
   simp -implicitDefEqProofs (disch := omega) only [go_sem, g, i, j, k]
   refine Jab (λ u => ?_) (λ u => ?_)
   . simp -implicitDefEqProofs (disch := omega) only [go_sem, g, i, j, k]
     refine Jaa (Jnk _) ?_
     simp -implicitDefEqProofs (disch := omega) only [go_sem, g, i, j, k]
     obtain ⟨m, rfl⟩ : ∃ m, n = m + 1 := ⟨n - 1, by omega⟩
     refine Jab (λ o => ?_) (λ o => ?_)
     . simp -implicitDefEqProofs (disch := omega) only [go_sem, results82]
       rw [f]; simp [Jgi, o]
     . simp -implicitDefEqProofs (disch := omega) only [go_sem, g, i, j, k]
       refine Jad m (by omega) ⟨v + 1, by omega, ?_⟩
       simp -implicitDefEqProofs (disch := omega) only [go_sem, g, i, j, k]
       refine ⟨by simp, ?_⟩
       rw [f]; simp at o; simp [Jgi, o]
   . simp -implicitDefEqProofs (disch := omega) only [go_sem, results82]
     have : n = 0 := by omega
     subst this; rw [f]; rfl
theorem JjA (l : List Ch) (f : l.length <= 1000000) : Ev prog 46 [CL l, .clo 75 []] (B (decide (0 <= Jgi l 0 l.length))) := by
 refine EV func46 ?_
 simp -implicitDefEqProofs (disch := omega) only [go_sem, ntmps46]
 refine Jaa (JpL l f) ?_
 simp -implicitDefEqProofs (disch := omega) only [go_sem, results46]
def Jb1 (l : List Ch) : Bool := decide (l.length <= 60) && decide (∀ i, i < l.length -> chOK (gd l i) = true)
theorem Jb6 (l : List Ch) (o : l.length <= 9223372036854775807) : Ev prog 39 [CL l] (B (Jb1 l)) := by
 refine EV func39 ?_
 simp -implicitDefEqProofs (disch := omega) only [go_sem, ntmps39]
 refine Jab (λ m => ?_) (λ m => ?_)
 . simp -implicitDefEqProofs (disch := omega) only [go_sem]
   refine Jaa (JjA l (by omega)) ?_
   simp -implicitDefEqProofs (disch := omega) only [go_sem, results39]
   have g := JjK l l.length 0 (by omega)
   have j : l.length <= 60 := by omega
   have k : (decide (0 <= Jgi l 0 l.length)) = !decide (∀ i, i < l.length -> chOK (gd l i) = true) := by
    rw [<- decide_not]; apply decide_eq_decide.2
    rw [show (∀ i, i < l.length -> chOK (gd l i) = true) ↔ Jgi l 0 l.length < 0 from ⟨λ h => g.2 λ i _ f => h i f, λ h i f => g.1 h i (L15 _) f⟩]
    omega
   simp only [Jb1, j, k, decide_true, L0h, Bool.not_not]
 . simp -implicitDefEqProofs (disch := omega) only [go_sem, results39]
   have : ¬ l.length <= 60 := by omega
   simp [Jb1, this]
theorem JcS (l : List Ch) (h : Jb1 l = true) : l.length <= 60 /\ ∀ c ∈ l, c.ok := by
 simp only [Jb1, L00, decide_eq_true_eq] at h
 refine ⟨h.1, λ c g => ?_⟩
 obtain ⟨i, f, rfl⟩ := L1h.1 g
 have := h.2 i f
 rw [show gd l i = l[i] from by unfold gd; simp [f]] at this
 exact Jo3 _ this
theorem JkI (l : List Ch) (o : l.length <= 9223372036854775807) (h : Jb1 l = true) : Ev prog 13 [CL l] (.tup [SL (JaD l), I 0]) := by
 obtain ⟨u, i⟩ := JcS l h
 have f : (JaD l).length = 8 := by have := (JbR l i l.length (L08 _)).1; rwa [L05] at this
 refine EV func13 ?_
 simp -implicitDefEqProofs (disch := omega) only [go_sem, ntmps13]; have k := Jb6 l o; rw [h] at k
 refine Jaa k ?_
 simp -implicitDefEqProofs (disch := omega) only [go_sem]
 refine Jaa (Jra l i (by omega)) ?_
 simp -implicitDefEqProofs (disch := omega) only [go_sem, f]
 refine Jcj [29360192] ?_
 refine Jcs (c := .agg ((JaD l).map I)) (j := 0) (m := 8) 0 8 (by simp -implicitDefEqProofs (disch := omega) only [go_sem]) Jdq Jtb (by simp [f]) ⟨rfl, rfl, by omega, by omega⟩ ?_
 have g : (JaD l).take 8 = JaD l := L03 (by omega)
 simp -implicitDefEqProofs (disch := omega) only [go_sem, g, results13]
theorem Jma (s : List Int) (g : s.length ≠ 0) (i : s.length <= 1000000) : Ev prog 78 [SL s] (SL s) := by
 refine Jed (r := .new 3 1 (s.map I)) ?_ _
 refine EV func78 ?_
 have f : s ≠ [] := by intro h; rw [h] at g; exact g rfl
 simp -implicitDefEqProofs (disch := omega) only [go_sem, ntmps78, f]
 try simp -implicitDefEqProofs (disch := omega) only [go_sem, results78, L05]
theorem Jdt (f : ByteArray) (l : List Ch) (j : l.length <= 9223372036854775807) : Ev prog 21 [.agg [Str f, CL l]] (B (decide (f.size = 32) && Jb1 l)) := by
 refine EV func21 ?_
 simp -implicitDefEqProofs (disch := omega) only [go_sem, ntmps21]
 refine Jab (λ i => ?_) (λ i => ?_)
 . simp -implicitDefEqProofs (disch := omega) only [go_sem]
   refine Jaa (Jb6 l j) ?_
   simp -implicitDefEqProofs (disch := omega) only [go_sem, results21]
   have g : f.size = 32 := by omega
   simp [g]
 . simp -implicitDefEqProofs (disch := omega) only [go_sem, results21]
   have g : ¬ f.size = 32 := by omega
   simp [g]
abbrev Deb := Int × Int × Int
abbrev DP (d : Deb) : AV := .agg [I d.1, I d.2.1, I d.2.2]
section
variable (p : Nat -> Bool) (l : List Deb)
@[go_sem] theorem Jyc : AV.namesL p (l.map DP) = false := Jaj p l DP λ _ => rfl
@[go_sem] theorem JzT : AV.flatL (l.map DP) = true := JaR l DP λ _ => rfl
@[go_sem] theorem Jzl : Jbq 3 (l.map DP) = true := Jaw 3 l DP λ _ => ⟨rfl, rfl⟩
@[go_sem] theorem Jxr (a b c : Int) : l.map DP ++ [.agg [.v (.int .i64 a), .v (.int .i64 b), .v (.int .i64 c)]] = (l ++ [(a, b, c)]).map DP := by simp
end
def debF (l : List Ch) : List Deb := (l.filter λ c => decide (0 < c.a)).map λ c => (c.p, c.q, c.a)
theorem Jk8 (l : List Ch) : (debF l).length <= l.length := by unfold debF; rw [L0b]; exact L1r ..
theorem Jns (l : List Ch) (h : Jb1 l = true) : Ev prog 18 [CL l] (.tup [.sl 3 ((debF l).map DP), I 0]) := by
 obtain ⟨B, _⟩ := JcS l h
 refine Jed (r := .tup [.new 88 3 ((debF l).map DP), I 0]) ?_ _
 refine EV func18 ?_
 simp -implicitDefEqProofs (disch := omega) only [go_sem, ntmps18]
 have w := Jb6 l (by omega)
 rw [h] at w
 refine Jaa w ?_
 simp -implicitDefEqProofs (disch := omega) only [go_sem]
 refine Jag (λ n E z => ∃ v : Nat, v + n = l.length /\ E 4 = .own 39845952 3 0 (debF (l.take v)).length /\ E 10 = CL l /\ E 11 = I l.length /\ E 12 = I v /\ z 39845952 = some ⟨88, 3, (debF (l.take v)).map DP⟩) l.length ⟨0, by omega, ?_⟩ ?_
 . simp -implicitDefEqProofs (disch := omega) only [go_sem]
   simp [debF]
 . rintro n E z ⟨v, w, j, f, g, i, k⟩
   have o := Jk8 (l.take v); rw [L01] at o; simp -implicitDefEqProofs (disch := omega) only [go_sem, j, f, g, i, k]
   refine Jab (λ A => ?_) (λ A => ?_)
   . have u : l.take (v + 1) = l.take v ++ [gd l v] := by rw [L0D, JaA l v (by omega)]; rfl
     simp -implicitDefEqProofs (disch := omega) only [go_sem, j, f, g, i, k]
     refine Jab (λ y => ?_) (λ y => ?_)
     . have m : debF (l.take (v + 1)) = debF (l.take v) ++ [((gd l v).p, (gd l v).q, (gd l v).a)] := by rw [u]; simp [debF, y]
       simp -implicitDefEqProofs (disch := omega) only [go_sem, j, f, g, i, k, L05]
       refine Jad (n - 1) (by omega) ⟨v + 1, by omega, ?_⟩
       rw [m]; simp -implicitDefEqProofs (disch := omega) only [go_sem, j, f, g, i, k, L05]
       simp
     . have m : debF (l.take (v + 1)) = debF (l.take v) := by rw [u]; simp [debF]; omega
       simp -implicitDefEqProofs (disch := omega) only [go_sem, j, f, g, i, k]
       refine Jad (n - 1) (by omega) ⟨v + 1, by omega, ?_⟩
       rw [m]; simp -implicitDefEqProofs (disch := omega) only [go_sem, j, f, g, i, k]
       simp
   . have e : v = l.length := by omega
     subst e; rw [L05] at j k o; simp -implicitDefEqProofs (disch := omega) only [go_sem, j, f, g, i, k, L05, results18]
theorem Jaq {p : Nat -> Bool} {a v : AV} (h : a = v) (f : AV.kill p v = v) : AV.kill p a = v := by rw [h, f]
abbrev Tot := List Int × ByteArray
instance : Inhabited ByteArray := ⟨⟨#[]⟩⟩
abbrev TP (t : Tot) : AV := TT t.1 t.2
abbrev RP (t : Tot) : AV := .agg [SL t.1, Str t.2]
abbrev TPL (l : List Tot) : AV := .sl 9 (l.map TP)
abbrev RPL (l : List Tot) : AV := .sl 2 (l.map RP)
section
variable (p : Nat -> Bool) (l : List Tot)
@[go_sem] theorem Jqd : AV.namesL p (l.map TP) = false := Jaj p l TP λ t => Jqe p t.1 t.2
@[go_sem] theorem JoK (a : List Int) (b : ByteArray) : l.map TP ++ [.agg (a.map I ++ [.v (.string b)])] = (l ++ [(a, b)]).map TP := by simp
@[go_sem] theorem Jr3 : AV.flatL (l.map TP) = true := JaR l TP λ t => Jr4 t.1 t.2
@[go_sem] theorem Jyf : AV.namesL p (l.map RP) = false := Jaj p l RP λ _ => rfl
@[go_sem] theorem Jzo : Jbq 2 (l.map RP) = true := Jaw 2 l RP λ _ => ⟨rfl, rfl⟩
@[go_sem] theorem Jxu (a : List Int) (b : ByteArray) : l.map RP ++ [.agg [.sl 1 (a.map I), .v (.string b)]] = (l ++ [(a, b)]).map RP := by simp
end
theorem JhQ {T : Type} [Inhabited T] (l : List T) (i : Nat) (h : i < l.length) : gd l i = l[i] := by simp [gd, h]
theorem Jci {T : Type} (l : List T) (f : T -> AV) (h : ∀ x, (f x).dn = false) : AV.dnL (l.map f) = false := by
 cases e : AV.dnL (l.map f) with
 | false => rfl
 | true => obtain ⟨c, i, g⟩ := (Jfl _).1 e; obtain ⟨x, _, rfl⟩ := L04.1 i; rw [h x] at g; cases g
theorem JxF (l : List Ch) : (CL l).dn = false := Jci l CH λ _ => rfl
theorem JBe (l : List Int) : (SL l).dn = false := Jci l I λ _ => rfl
theorem JxG (t : Tot) : (TP t).dn = false := by
 show AV.dnL (t.1.map I ++ [Str t.2]) = false
 cases e : AV.dnL (t.1.map I ++ [Str t.2]) with
 | false => rfl
 | true =>
  obtain ⟨c, hc, h2⟩ := (Jfl _).1 e
  rcases L0t.1 hc with h | h
  . obtain ⟨x, _, rfl⟩ := L04.1 h; cases h2
  . simp at h; subst h; cases h2
theorem JBd (t : Tot) : (RP t).dn = false := by
 show (AV.dn (SL t.1) || (false || false)) = false
 rw [JBe]; rfl
def TotB (B : Int) (t : Tot) : Prop := t.1.length = 8 /\ (∀ n ∈ t.1, -B <= n /\ n <= B) /\ t.2.size = 32
theorem TotB.mono {B C : Int} {t : Tot} (h : TotB B t) (f : B <= C) : TotB C t := ⟨h.1, λ n g => by have := h.2.1 n g; omega, h.2.2⟩
def Jet (a b : Tot) : Tot := (Jfw a.1 b.1, Ja2 (Jb2 a.1 a.2) (Jb2 b.1 b.2))
theorem JjT {B : Int} {s : List Int} (h : ∀ n ∈ s, -B <= n /\ n <= B) (f : 0 <= B) (j : Nat) : -B <= gd s j /\ gd s j <= B := by
 by_cases hj : j < s.length
 . exact h _ (Jan s j hj)
 . rw [Jlg s j (by omega)]; exact ⟨by show -B <= 0; omega, by show 0 <= B; omega⟩
theorem JpV {B C : Int} {s t : List Int} (h : ∀ n ∈ s, -B <= n /\ n <= B) (k : ∀ n ∈ t, -C <= n /\ n <= C) (f : 0 <= B) (g : 0 <= C) : ∀ n ∈ Jfw s t, -(B + C) <= n /\ n <= B + C := by
 intro n i
 obtain ⟨j, _, rfl⟩ := L04.1 i
 have m := JjT h f j; have o := JjT k g j
 omega
theorem JiF {B C : Int} {a b : Tot} (i : TotB B a) (j : TotB C b) (f : 0 <= B) (g : 0 <= C) : TotB (B + C) (Jet a b) :=
 ⟨JbV _ _, JpV i.2.1 j.2.1 f g, Jbt _ _⟩
theorem Jll {a b : Tot} (f : TotB 1000000000000000 a) (g : TotB 1000000000000000 b) : Ev prog 49 [TP a, TP b] (TP (Jet a b)) :=
 JuU a.1 b.1 a.2 b.2 f.1 g.1 (λ n i => by have := f.2.1 n i; omega) (λ n i => by have := g.2.1 n i; omega) f.2.2 g.2.2
def Jj4 (f : ByteArray) (l : List Ch) : Tot := (JaD l, JtW f l)
theorem Jmx (f : ByteArray) (l : List Ch) (j : f.size = 32) (g : ∀ c ∈ l, c.ok) (i : l.length <= 1000) : Ev prog 47 [Str f, CL l] (TP (Jj4 f l)) := Js8 f l j g i
theorem Jhu (l : List Ch) : (JaD l).length = 8 := by
 have f : ∀ (l : List Ch) (s : List Int), (l.foldl Jdn s).length = s.length := by
  intro l
  induction l with
  | nil => intro s; rfl
  | cons c l g => intro s; rw [L17, g, Jbw]
 unfold JaD; rw [f]; rfl
theorem Jmy (g : ByteArray) (l : List Ch) (m : ∀ c ∈ l, c.ok) (o : l.length <= 60) : TotB 120000000000 (Jj4 g l) := by
 refine ⟨Jhu l, λ n j => ?_, Jbg _⟩
 have f := (JbR l m l.length (L08 _)).2; rw [L05] at f
 obtain ⟨i, k, rfl⟩ := L1h.1 j
 have := f i
 rw [JhQ _ _ (show i < (JaD l).length from k)] at this
 show _ <= (JaD l)[i] /\ (JaD l)[i] <= _
 omega
theorem JtK {l : List Ch} (g : ∀ c ∈ l, c.ok) (h : Int) : ∀ c ∈ ofF l h, c.ok := λ c f => g c (L2g.1 f).1
theorem Jlz (l : List Ch) (h : Int) : (ofF l h).length <= l.length := L1r ..
def JcV : List Tot -> List Tot
 | a :: b :: l => Jet a b :: JcV l
 | _ => []
def Jg1 (f : ByteArray) (l : List Ch) (h : Int) : Tot := Jj4 (Jn9 f h) (ofF l h)
def rowT (f : ByteArray) (l : List Ch) : Nat -> List Tot
 | 0 => (List.range 64).map λ h : Nat => Jg1 f l (h : Int)
 | k + 1 => JcV (rowT f l k)
theorem JcW : ∀ (l : List Tot) (i : Nat), 2 * i + 1 < l.length -> gd (JcV l) i = Jet (gd l (2 * i)) (gd l (2 * i + 1))
 | [], i, h => by simp at h
 | [_], i, h => by simp at h
 | a :: b :: l, 0, _ => rfl
 | a :: b :: l, i + 1, h => by
  rw [JcV, Jap, JcW l i (by simp at h; omega)]
  rw [show 2 * (i + 1) = 2 * i + 1 + 1 from by omega, show 2 * i + 1 + 1 + 1 = (2 * i + 1) + 1 + 1 from rfl]
  rw [Jap, Jap, Jap, Jap]
theorem JaN : ∀ (l : List Tot), (JcV l).length = l.length / 2
 | [] => rfl
 | [_] => by simp [JcV]
 | a :: b :: l => by rw [JcV, L0c, JaN l]; simp only [L0c]; omega
theorem JaS (f : ByteArray) (l : List Ch) : ∀ k, k <= 6 -> (rowT f l k).length = 2 ^ (6 - k)
 | 0, _ => by simp [rowT]
 | k + 1, h => by
  rw [rowT, JaN, JaS f l k (by omega)]
  have : k = 0 \/ k = 1 \/ k = 2 \/ k = 3 \/ k = 4 \/ k = 5 := by omega
  rcases this with rfl | rfl | rfl | rfl | rfl | rfl <;> rfl
theorem JlL (f : ByteArray) {l : List Ch} (j : ∀ c ∈ l, c.ok) (m : l.length <= 60) : ∀ k, k <= 6 -> ∀ i, i < 2 ^ (6 - k) -> TotB (120000000000 * 2 ^ k) (gd (rowT f l k) i)
 | 0, _, i, g => by
  have : gd (rowT f l 0) i = Jg1 f l (i : Int) := by unfold rowT gd; simp at g; simp [g]
  rw [this, Int.pow_zero, Int.mul_one]
  exact Jmy _ _ (JtK j _) (L0m (Jlz l _) m)
 | k + 1, h, i, g => by
  have w : 2 ^ (6 - k) = 2 * 2 ^ (6 - (k + 1)) := by rw [show 6 - k = (6 - (k + 1)) + 1 from by omega, L0W]; omega
  have o := JaS f l k (by omega)
  rw [rowT, JcW _ i (by omega)]
  have a := JlL f j m k (by omega) (2 * i) (by omega)
  have b := JlL f j m k (by omega) (2 * i + 1) (by omega)
  have u : (0 : Int) <= 120000000000 * 2 ^ k := L1L (by decide) (Int.pow_nonneg (by decide))
  have := JiF a b u u
  rw [show (120000000000 : Int) * 2 ^ (k + 1) = 120000000000 * 2 ^ k + 120000000000 * 2 ^ k from by rw [Int.pow_succ]; omega]
  exact this
theorem JmP (f : ByteArray) {l : List Ch} (j : ∀ c ∈ l, c.ok) (m : l.length <= 60) (k : Nat) (g : k <= 6) (i : Nat) (hi : i < 2 ^ (6 - k)) : TotB 8000000000000 (gd (rowT f l k) i) := by
 refine (JlL f j m k g i hi).mono ?_
 have : k = 0 \/ k = 1 \/ k = 2 \/ k = 3 \/ k = 4 \/ k = 5 \/ k = 6 := by omega
 rcases this with rfl | rfl | rfl | rfl | rfl | rfl | rfl <;> decide
theorem Ji2 (f : ByteArray) {l : List Ch} (m : ∀ c ∈ l, c.ok) (o : l.length <= 60) (k : Nat) (j : k <= 6) : ∀ t ∈ rowT f l k, TotB 8000000000000 t := by
 intro t u
 obtain ⟨i, g, rfl⟩ := L1h.1 u
 have := JmP f m o k j i (by rw [<- JaS f l k j]; exact g)
 rwa [JhQ _ _ g] at this
def JcO (f : ByteArray) (l : List Ch) : Tot := gd (rowT f l 6) 0
def sibN (i : Nat) : Nat := if i % 2 = 0 then i + 1 else i - 1
def Jgk (f : ByteArray) (l : List Ch) (h : Nat) : List Tot := (List.range 6).map λ k => gd (rowT f l k) (sibN (h / 2 ^ k))
structure Acc where
 h : Int
 l : List Ch
 s : ByteArray
 p : List Tot
abbrev AP (a : Acc) : AV := .agg [I a.h, CL a.l, Str a.s, RPL a.p]
def JeF (t : Tot) : Bool := decide (t.1.length = 8) && decide (t.2.size = 32) && decide (∀ n ∈ t.1, -1000000000000 <= n /\ n <= 1000000000000)
def Jm6 (a : Acc) : Bool := inF a.h 0 63 && Jb1 a.l && decide (∀ c ∈ a.l, c.h = a.h) && decide (a.s.size = 32) && decide (a.p.length = 6) && decide (∀ t ∈ a.p, JeF t = true)
def JiK (h : Nat) (u t : Tot) : Tot := if h % 2 = 1 then Jet u t else Jet t u
def Jfg : Nat -> List Tot -> Tot -> Tot
 | _, [], t => t
 | h, u :: p, t => Jfg (h / 2) p (JiK h u t)
def JeO (sl : Tot) (a : Acc) : Bool := Jm6 a && decide (Jfg a.h.toNat a.p (Jj4 a.s a.l) = sl)
def z0 : ByteArray := ⟨#[0]⟩
def z1 : ByteArray := ⟨#[1]⟩
def Coll (a b : List ByteArray) : Prop := ∃ x ∈ a, ∃ y ∈ b, x ≠ y /\ shaF x = shaF y
theorem Coll.mono {a b c d : List ByteArray} (h : Coll a b) (f : ∀ x ∈ a, x ∈ c) (g : ∀ x ∈ b, x ∈ d) : Coll c d := by
 obtain ⟨x, i, y, j, h⟩ := h; exact ⟨x, f x i, y, g y j, h⟩
theorem Jrz {a : Acc} (f : 0 <= a.h /\ a.h <= 63) (g : Jb1 a.l = true) (i : ∀ c ∈ a.l, c.h = a.h) (h4 : a.s.size = 32) (j : a.p.length = 6) (k : ∀ t ∈ a.p, JeF t = true) : Jm6 a = true := by
 simp only [Jm6, inF, L00, decide_eq_true_eq]
 exact ⟨⟨⟨⟨⟨f, g⟩, i⟩, h4⟩, j⟩, k⟩
theorem Jvw {B : Int} {h : Nat} {u t : Tot} (i : TotB 1000000000000 u) (g : TotB B t) (f : 0 <= B) : TotB (B + 1000000000000) (JiK h u t) := by
 unfold JiK; split
 . exact (JiF i g (by omega) f).mono (by omega)
 . exact JiF g i f (by omega)
def ctr (j : Nat) (c : Ch) : Int := (if c.q.toNat = j then c.a else 0) - (if c.p.toNat = j then c.a else 0)
def sumJ (j : Nat) (l : List Ch) : Int := (l.map (ctr j)).sum
theorem Jc4 (j : Nat) (c : Ch) (l : List Ch) : sumJ j (c :: l) = ctr j c + sumJ j l := by simp [sumJ]
theorem JsX {s : List Int} {c : Ch} (k : s.length = 8) (g : c.ok) (i : c.p ≠ c.q) {j : Nat} (m : j < 8) : gd (Jdn s c) j = gd s j + ctr j c := by
 obtain ⟨o, u, w, y, _⟩ := g
 have f : c.p.toNat ≠ c.q.toNat := by omega
 unfold Jdn
 rw [Jej _ _ _ _ (by rw [JeB]; omega)]
 unfold payS
 rw [Jej _ _ _ _ (by omega), Jej _ _ _ _ (by omega)]
 unfold ctr
 by_cases e1 : j = c.q.toNat
 . subst e1
   simp [f, Ne.symm f]
 . by_cases e2 : j = c.p.toNat
   . subst e2
     simp [f, Ne.symm f]; omega
   . simp [e1, e2, Ne.symm e1, Ne.symm e2]
def Ch.good (c : Ch) : Prop := c.ok /\ c.p ≠ c.q
theorem Jo2 {c : Ch} (h : chOK c = true) : c.good := by
 refine ⟨Jo3 c h, ?_⟩
 simp only [chOK, L00, decide_eq_true_eq] at h; exact h.1.1.1.2
theorem JpB {c : Ch} (h : c.good) : chOK c = true := by
 obtain ⟨⟨g, i, j, k, m, o, u, w, y⟩, f⟩ := h
 simp only [chOK, inF, L00, decide_eq_true_eq]
 exact ⟨⟨⟨⟨⟨⟨g, i⟩, j, k⟩, f⟩, u, w⟩, m, o⟩, y⟩
theorem JhH {l : List Ch} (h : Jb1 l = true) : l.length <= 60 /\ ∀ c ∈ l, c.good := by
 refine ⟨(JcS l h).1, λ c g => ?_⟩
 simp only [Jb1, L00, decide_eq_true_eq] at h
 obtain ⟨i, f, rfl⟩ := L1h.1 g
 have := h.2 i f
 rw [show gd l i = l[i] from by unfold gd; simp [f]] at this
 exact Jo2 this
theorem JnC {l : List Ch} (g : l.length <= 60) (h : ∀ c ∈ l, c.good) : Jb1 l = true := by
 simp only [Jb1, L00, decide_eq_true_eq]
 exact ⟨g, λ i f => JpB (h _ (Jan l i f))⟩
theorem JmX {l : List Ch} (o : ∀ c ∈ l, c.good) {j : Nat} (m : j < 8) : gd (JaD l) j = sumJ j l := by
 have f : ∀ (l : List Ch) (s : List Int), s.length = 8 -> (∀ c ∈ l, c.good) -> gd (l.foldl Jdn s) j = gd s j + sumJ j l := by
  intro l
  induction l with
  | nil => intro s _ _; simp [sumJ]
  | cons c l u =>
   intro s k i
   have g := i c (by simp)
   rw [L17, u _ (by rw [Jbw]; exact k) (λ c h => i c (by simp [h])), JsX k g.1 g.2 m, Jc4]; omega
 unfold JaD
 rw [f l _ (by simp) o]
 have : gd (List.replicate 8 (0 : Int)) j = 0 := by
  rcases j with _ | _ | _ | _ | _ | _ | _ | _ | j <;> first | rfl | omega
 rw [this]; omega
theorem JxD {c : Ch} (h : c.good) (j : Nat) : -1000000000 <= ctr j c /\ ctr j c <= 1000000000 := by
 obtain ⟨⟨_, _, _, _, f, g, _⟩, _⟩ := h
 unfold ctr; split <;> split <;> omega
theorem JvC {l : List Ch} (f : ∀ c ∈ l, c.good) (j : Nat) : -(1000000000 * (l.length : Int)) <= sumJ j l /\ sumJ j l <= 1000000000 * (l.length : Int) := by
 induction l with
 | nil => simp [sumJ]
 | cons c l i =>
  have k := JxD (f c (by simp)) j
  have m := i λ c g => f c (by simp [g])
  rw [Jc4, L0c]; push_cast; omega
def Jcy (l : List Ch) (k i : Nat) : List Ch := l.filter λ c => c.h.toNat / 2 ^ k = i
theorem JkT (l : List Ch) (k i j : Nat) : sumJ j (Jcy l (k + 1) i) = sumJ j (Jcy l k (2 * i)) + sumJ j (Jcy l k (2 * i + 1)) := by
 induction l with
 | nil => rfl
 | cons c l f =>
  have g : c.h.toNat / 2 ^ (k + 1) = c.h.toNat / 2 ^ k / 2 := by rw [L0W, L2l]
  simp only [Jcy, List.filter_cons, decide_eq_true_eq] at *; rw [g]; generalize c.h.toNat / 2 ^ k = x at *
  by_cases h1 : x = 2 * i
  . rw [if_pos (by omega), if_pos h1, if_neg (by omega), Jc4, Jc4, f]; omega
  . by_cases h2 : x = 2 * i + 1
    . rw [if_pos (by omega), if_neg h1, if_pos h2, Jc4, Jc4, f]; omega
    . rw [if_neg (by omega), if_neg h1, if_neg h2, f]
theorem Jes {l : List Ch} (i : ∀ c ∈ l, c.good) (f : Ch -> Bool) : ∀ c ∈ l.filter f, c.good := λ c g => i c ((L2g.1 g).1)
theorem JiE (s t : List Int) {j : Nat} (f : j < 8) : gd (Jfw s t) j = gd s j + gd t j := by unfold Jfw gd; simp [f]
theorem Ji4 (f : ByteArray) {l : List Ch} (m : ∀ c ∈ l, c.good) {j : Nat} (g : j < 8) : ∀ k, k <= 6 -> ∀ i, i < 2 ^ (6 - k) -> gd (gd (rowT f l k) i).1 j = sumJ j (Jcy l k i)
 | 0, _, i, o => by
  have : gd (rowT f l 0) i = Jg1 f l (i : Int) := by unfold rowT gd; simp at o; simp [o]
  rw [this]
  show gd (JaD (ofF l i)) j = _
  unfold ofF Jcy; rw [JmX (Jes m _) g]
  congr 1
  refine List.filter_congr λ c w => ?_
  obtain ⟨⟨_, _, _, _, _, _, z, _⟩, _⟩ := m c w
  simp only [Nat.pow_zero, Nat.div_one, decide_eq_decide]
  omega
 | k + 1, h, i, o => by
  have y : 2 ^ (6 - k) = 2 * 2 ^ (6 - (k + 1)) := by rw [show 6 - k = (6 - (k + 1)) + 1 from by omega, L0W]; omega
  have u := JaS f l k (by omega)
  rw [rowT, JcW _ i (by omega)]
  show gd (Jfw _ _) j = _
  rw [JiE _ _ g, Ji4 f m g k (by omega) (2 * i) (by omega), Ji4 f m g k (by omega) (2 * i + 1) (by omega), JkT]
theorem Jgx (f : ByteArray) {l : List Ch} (m : ∀ c ∈ l, c.good) (o : l.length <= 60) {k : Nat} (j : k <= 6) {i : Nat} (hi : i < 2 ^ (6 - k)) : (gd (rowT f l k) i).1.length = 8 /\ (gd (rowT f l k) i).2.size = 32 := by
 have := JmP f (λ c g => (m c g).1) o k j i hi
 exact ⟨this.1, this.2.2⟩
theorem Jvn (f : ByteArray) {l : List Ch} (g : ∀ c ∈ l, c.good) (w : l.length <= 60) {k : Nat} (u : k <= 6) {i : Nat} (hi : i < 2 ^ (6 - k)) : JeF (gd (rowT f l k) i) = true := by
 obtain ⟨y, z⟩ := Jgx f g w u hi
 simp only [JeF, L00, decide_eq_true_eq]
 refine ⟨⟨y, z⟩, λ n m => ?_⟩
 obtain ⟨j, A, rfl⟩ := L1h.1 m
 have e := Ji4 f g (j := j) (by omega) k u i hi
 rw [show gd (gd (rowT f l k) i).1 j = (gd (rowT f l k) i).1[j] from by rw [gd, L0U, L07 A]; rfl] at e
 rw [e]
 have o := JvC (Jes g λ c => decide (c.h.toNat / 2 ^ k = i)) j
 have B : (Jcy l k i).length <= 60 := L0m (L1r ..) w
 show _ <= sumJ j (Jcy l k i) /\ sumJ j (Jcy l k i) <= _
 have o : -(1000000000 * ((Jcy l k i).length : Int)) <= sumJ j (Jcy l k i) /\ sumJ j (Jcy l k i) <= 1000000000 * ((Jcy l k i).length : Int) := o
 omega
theorem Jkr (f : ByteArray) {l : List Ch} (m : ∀ c ∈ l, c.good) (o : l.length <= 60) : (JcO f l).1 = JaD l := by
 refine JeU (by rw [Jhu]; exact (Jgx f m o (k := 6) (i := 0) (by omega) (by decide)).1) λ j g => ?_
 have g : j < 8 := by rw [show (JcO f l).1.length = 8 from (Jgx f m o (k := 6) (i := 0) (by omega) (by decide)).1] at g; exact g
 unfold JcO
 rw [Ji4 f m g 6 (by omega) 0 (by decide), JmX m g]
 congr 1
 unfold Jcy; rw [L25]
 intro c u
 obtain ⟨⟨_, _, _, _, _, _, w, y, _⟩, _⟩ := m c u
 simp only [decide_eq_true_eq]
 omega
def ownA (f : ByteArray) (l : List Ch) (h : Nat) : Acc := ⟨h, ofF l h, Jn9 f h, Jgk f l h⟩
theorem JkM (f : ByteArray) (l : List Ch) (h : Nat) (g : h < 64) : ∀ n k, k + n = 6 ->
 Jfg (h / 2 ^ k) ((List.range' k n).map λ k => gd (rowT f l k) (sibN (h / 2 ^ k))) (gd (rowT f l k) (h / 2 ^ k)) = gd (rowT f l 6) 0
 | 0, k, o => by
  obtain rfl : k = 6 := by omega
  show gd (rowT f l 6) (h / 2 ^ 6) = _
  rw [show h / 2 ^ 6 = 0 from by omega]
 | n + 1, k, o => by
  rw [L1Q, L0j, Jfg]
  have i : h / 2 ^ k / 2 = h / 2 ^ (k + 1) := by rw [L0W, L2l]
  have u : h / 2 ^ k < 2 ^ (6 - k) := by
   rw [L1R (L1Z k), <- Nat.pow_add, show 6 - k + k = 6 from by omega]; omega
  have j : JiK (h / 2 ^ k) (gd (rowT f l k) (sibN (h / 2 ^ k))) (gd (rowT f l k) (h / 2 ^ k)) = gd (rowT f l (k + 1)) (h / 2 ^ (k + 1)) := by
   have w : 2 ^ (6 - k) = 2 * 2 ^ (6 - (k + 1)) := by rw [show 6 - k = (6 - (k + 1)) + 1 from by omega, L0W]; omega
   have m := JaS f l k (by omega)
   rw [rowT, JcW _ _ (by rw [<- i]; omega), <- i]
   generalize h / 2 ^ k = x at *; unfold JiK sibN
   by_cases hx : x % 2 = 1
   . rw [if_pos hx, if_neg (by omega), show 2 * (x / 2) = x - 1 from by omega, show x - 1 + 1 = x from by omega]
   . rw [if_neg hx, if_pos (by omega), show 2 * (x / 2) = x from by omega]
  rw [j, i]
  exact JkM f l h g n (k + 1) (by omega)
theorem JsG (f : ByteArray) (l : List Ch) (h : Nat) (g : h < 64) : Jfg h (Jgk f l h) (Jg1 f l h) = JcO f l := by
 have := JkM f l h g 6 0 rfl
 rw [Nat.pow_zero, Nat.div_one, <- L1D] at this
 rw [<- show gd (rowT f l 0) h = Jg1 f l (h : Int) from by unfold rowT gd; simp [g]]
 exact this
theorem JyB (f : ByteArray) {l : List Ch} (i : ∀ c ∈ l, c.good) (j : l.length <= 60) (h : Nat) (m : h < 64) : Jm6 (ownA f l h) = true := by
 refine Jrz (by show 0 <= (h : Int) /\ (h : Int) <= 63; omega) (JnC (L0m (Jlz l _) j) (Jes i _)) (λ c o => ?_) (Jbt _ _) (by simp [ownA, Jgk]) (λ t w => ?_)
 . show c.h = (h : Int)
   simpa using (L2g.1 o).2
 . obtain ⟨k, g, rfl⟩ := L04.1 w
   have g := L12.1 g
   refine Jvn f i j (by omega) ?_
   have u : h / 2 ^ k < 2 ^ (6 - k) := by
    rw [L1R (L1Z k), <- Nat.pow_add, show 6 - k + k = 6 from by omega]; omega
   have y : 2 ^ (6 - k) = 2 * 2 ^ (6 - (k + 1)) := by rw [show 6 - k = (6 - (k + 1)) + 1 from by omega, L0W]; omega
   generalize 2 ^ (6 - (k + 1)) = M at *; generalize 2 ^ (6 - k) = N at *; generalize h / 2 ^ k = x at *
   unfold sibN; split <;> omega
theorem Jkj (f : ByteArray) {l : List Ch} (i : ∀ c ∈ l, c.good) (j : l.length <= 60) (h : Nat) (g : h < 64) : JeO (JcO f l) (ownA f l h) = true := by
 simp only [JeO, L00, decide_eq_true_eq]
 exact ⟨JyB f i j h g, JsG f l h g⟩
theorem Je8 (t : Tot) (h8 : t.1.length = 8) : Ev prog 42 [TP t] (RP t) := by
  obtain ⟨s, d⟩ := t
  have h8 : s.length = 8 := h8
  have ht : (s.map I ++ [Str d]).take 9 = s.map I ++ [Str d] := L03 (by simp [h8])
  refine EW [1] func42 ?_
  simp -implicitDefEqProofs (disch := omega) only [go_sem, ntmps42, h8, ht]
  refine JhP [90177552] ?_
  have h9 : (s.map I ++ [Str d])[8]? = some (Str d) := by rw [L0p (by simp [h8])]; simp [h8]
  have h88 : (s.map I ++ [Str d]).take 8 = s.map I := by
    rw [L1N (by simp [h8]), L03 (by simp [h8])]
  refine Ji0 (Plain.mono) (fun D E σ => E 1 = .pt (TT s d) 0 /\ E 2 = .ptr 90177568 2 0 0 /\ (D 6 = false -> σ 90177568 = some ⟨66, 2, [.agg [.v (.slice none 0 0), .v (.string ByteArray.empty)]]⟩) /\ (D 6 = true -> σ 90177568 = some ⟨66, 2, [RP (s, d)]⟩) /\ (D 0 = true -> E 3 = .pt (TT s d) 0) /\ (D 1 = true -> E 4 = SL s) /\ (D 2 = true -> E 5 = SL s) /\ (D 3 = true -> E 6 = .pt (TT s d) 8) /\ (D 4 = true -> E 7 = Str d) /\ (D 5 = true -> E 8 = RP (s, d))) ?_ ?_ ?_
  . simp -implicitDefEqProofs (disch := omega) only [go_sem, h8, ht, h9]
    simp
  . simp only [Jih, and_true]
    refine ⟨?_, ?_, ?_, ?_, ?_, ?_, ?_⟩
    . rintro D hD hd E σ ⟨h1, h2, s6a, s6b, j0, j1, j2, j3, j4, j5⟩
      cases h6 : D 6
      . have g6 := s6a h6; simp -implicitDefEqProofs (disch := omega) only [go_sem, h1, h2, g6, h8, ht, h9]
        repeat' apply And.intro
        all_goals first | assumption | (intro h; rw [h6] at h; cases h; done) | (intro h; refine Jaq ?_ (by first | rfl | simp -implicitDefEqProofs (disch := omega) only [go_sem]); first | exact j0 h | exact j1 h | exact j2 h | exact j3 h | exact j4 h | exact j5 h) | (intro h; simp -implicitDefEqProofs (disch := omega) only [go_sem]; done) | (intros; trivial)
      . have g6 := s6b h6; simp -implicitDefEqProofs (disch := omega) only [go_sem, h1, h2, g6, h8, ht, h9]
        repeat' apply And.intro
        all_goals first | assumption | (intro h; rw [h6] at h; cases h; done) | (intro h; refine Jaq ?_ (by first | rfl | simp -implicitDefEqProofs (disch := omega) only [go_sem]); first | exact j0 h | exact j1 h | exact j2 h | exact j3 h | exact j4 h | exact j5 h) | (intro h; simp -implicitDefEqProofs (disch := omega) only [go_sem]; done) | (intros; trivial)
    . rintro D hD hd E σ ⟨h1, h2, s6a, s6b, j0, j1, j2, j3, j4, j5⟩
      have d0 : D 0 = true := hd ⟨0, .data⟩ (by simp) rfl
      have q0 := j0 d0
      cases h6 : D 6
      . have g6 := s6a h6; simp -implicitDefEqProofs (disch := omega) only [go_sem, h1, h2, q0, g6, h8, ht, h9]
        refine Jcs (c := TT s d) (j := 0) (m := 8) 0 8 (by simp -implicitDefEqProofs (disch := omega) only [go_sem, q0]) Jdq Jtb (by simp [h8]) ⟨rfl, rfl, by omega, by omega⟩ ?_ (Jir s d)
        rw [show ((TT s d).cells.drop (0 + 0)).take (8 - 0) = s.map I from h88]
        simp -implicitDefEqProofs (disch := omega) only [go_sem, h1, h2, q0, g6, h8, ht, h9]
        repeat' apply And.intro
        all_goals first | assumption | (intro h; rw [h6] at h; cases h; done) | (intro h; refine Jaq ?_ (by first | rfl | simp -implicitDefEqProofs (disch := omega) only [go_sem]); first | exact j0 h | exact j1 h | exact j2 h | exact j3 h | exact j4 h | exact j5 h) | (intro h; simp -implicitDefEqProofs (disch := omega) only [go_sem]; done) | (intros; trivial)
      . have g6 := s6b h6; simp -implicitDefEqProofs (disch := omega) only [go_sem, h1, h2, q0, g6, h8, ht, h9]
        refine Jcs (c := TT s d) (j := 0) (m := 8) 0 8 (by simp -implicitDefEqProofs (disch := omega) only [go_sem, q0]) Jdq Jtb (by simp [h8]) ⟨rfl, rfl, by omega, by omega⟩ ?_ (Jir s d)
        rw [show ((TT s d).cells.drop (0 + 0)).take (8 - 0) = s.map I from h88]
        simp -implicitDefEqProofs (disch := omega) only [go_sem, h1, h2, q0, g6, h8, ht, h9]
        repeat' apply And.intro
        all_goals first | assumption | (intro h; rw [h6] at h; cases h; done) | (intro h; refine Jaq ?_ (by first | rfl | simp -implicitDefEqProofs (disch := omega) only [go_sem]); first | exact j0 h | exact j1 h | exact j2 h | exact j3 h | exact j4 h | exact j5 h) | (intro h; simp -implicitDefEqProofs (disch := omega) only [go_sem]; done) | (intros; trivial)
    . rintro D hD hd E σ ⟨h1, h2, s6a, s6b, j0, j1, j2, j3, j4, j5⟩
      have d1 : D 1 = true := hd ⟨1, .data⟩ (by simp) rfl
      have q1 := j1 d1
      cases h6 : D 6
      . have g6 := s6a h6; simp -implicitDefEqProofs (disch := omega) only [go_sem, h1, h2, q1, g6, h8, ht, h9]
        refine Jaa (Jma s (by omega) (by omega)) ?_
        simp -implicitDefEqProofs (disch := omega) only [go_sem, h1, h2, q1, g6, h8, ht, h9]
        repeat' apply And.intro
        all_goals first | assumption | (intro h; rw [h6] at h; cases h; done) | (intro h; refine Jaq ?_ (by first | rfl | simp -implicitDefEqProofs (disch := omega) only [go_sem]); first | exact j0 h | exact j1 h | exact j2 h | exact j3 h | exact j4 h | exact j5 h) | (intro h; simp -implicitDefEqProofs (disch := omega) only [go_sem]; done) | (intros; trivial)
      . have g6 := s6b h6; simp -implicitDefEqProofs (disch := omega) only [go_sem, h1, h2, q1, g6, h8, ht, h9]
        refine Jaa (Jma s (by omega) (by omega)) ?_
        simp -implicitDefEqProofs (disch := omega) only [go_sem, h1, h2, q1, g6, h8, ht, h9]
        repeat' apply And.intro
        all_goals first | assumption | (intro h; rw [h6] at h; cases h; done) | (intro h; refine Jaq ?_ (by first | rfl | simp -implicitDefEqProofs (disch := omega) only [go_sem]); first | exact j0 h | exact j1 h | exact j2 h | exact j3 h | exact j4 h | exact j5 h) | (intro h; simp -implicitDefEqProofs (disch := omega) only [go_sem]; done) | (intros; trivial)
    . rintro D hD hd E σ ⟨h1, h2, s6a, s6b, j0, j1, j2, j3, j4, j5⟩
      cases h6 : D 6
      . have g6 := s6a h6; simp -implicitDefEqProofs (disch := omega) only [go_sem, h1, h2, g6, h8, ht, h9]
        repeat' apply And.intro
        all_goals first | assumption | (intro h; rw [h6] at h; cases h; done) | (intro h; refine Jaq ?_ (by first | rfl | simp -implicitDefEqProofs (disch := omega) only [go_sem]); first | exact j0 h | exact j1 h | exact j2 h | exact j3 h | exact j4 h | exact j5 h) | (intro h; simp -implicitDefEqProofs (disch := omega) only [go_sem]; done) | (intros; trivial)
      . have g6 := s6b h6; simp -implicitDefEqProofs (disch := omega) only [go_sem, h1, h2, g6, h8, ht, h9]
        repeat' apply And.intro
        all_goals first | assumption | (intro h; rw [h6] at h; cases h; done) | (intro h; refine Jaq ?_ (by first | rfl | simp -implicitDefEqProofs (disch := omega) only [go_sem]); first | exact j0 h | exact j1 h | exact j2 h | exact j3 h | exact j4 h | exact j5 h) | (intro h; simp -implicitDefEqProofs (disch := omega) only [go_sem]; done) | (intros; trivial)
    . rintro D hD hd E σ ⟨h1, h2, s6a, s6b, j0, j1, j2, j3, j4, j5⟩
      have d3 : D 3 = true := hd ⟨3, .data⟩ (by simp) rfl
      have q3 := j3 d3
      cases h6 : D 6
      . have g6 := s6a h6; simp -implicitDefEqProofs (disch := omega) only [go_sem, h1, h2, q3, g6, h8, ht, h9]
        repeat' apply And.intro
        all_goals first | assumption | (intro h; rw [h6] at h; cases h; done) | (intro h; refine Jaq ?_ (by first | rfl | simp -implicitDefEqProofs (disch := omega) only [go_sem]); first | exact j0 h | exact j1 h | exact j2 h | exact j3 h | exact j4 h | exact j5 h) | (intro h; simp -implicitDefEqProofs (disch := omega) only [go_sem]; done) | (intros; trivial)
      . have g6 := s6b h6; simp -implicitDefEqProofs (disch := omega) only [go_sem, h1, h2, q3, g6, h8, ht, h9]
        repeat' apply And.intro
        all_goals first | assumption | (intro h; rw [h6] at h; cases h; done) | (intro h; refine Jaq ?_ (by first | rfl | simp -implicitDefEqProofs (disch := omega) only [go_sem]); first | exact j0 h | exact j1 h | exact j2 h | exact j3 h | exact j4 h | exact j5 h) | (intro h; simp -implicitDefEqProofs (disch := omega) only [go_sem]; done) | (intros; trivial)
    . rintro D hD hd E σ ⟨h1, h2, s6a, s6b, j0, j1, j2, j3, j4, j5⟩
      have d2 : D 2 = true := hd ⟨2, .data⟩ (by simp) rfl
      have q2 := j2 d2
      have d4 : D 4 = true := hd ⟨4, .data⟩ (by simp) rfl
      have q4 := j4 d4
      cases h6 : D 6
      . have g6 := s6a h6; simp -implicitDefEqProofs (disch := omega) only [go_sem, h1, h2, q2, q4, g6, h8, ht, h9]
        repeat' apply And.intro
        all_goals first | assumption | (intro h; rw [h6] at h; cases h; done) | (intro h; refine Jaq ?_ (by first | rfl | simp -implicitDefEqProofs (disch := omega) only [go_sem]); first | exact j0 h | exact j1 h | exact j2 h | exact j3 h | exact j4 h | exact j5 h) | (intro h; simp -implicitDefEqProofs (disch := omega) only [go_sem]; done) | (intros; trivial)
      . have g6 := s6b h6; simp -implicitDefEqProofs (disch := omega) only [go_sem, h1, h2, q2, q4, g6, h8, ht, h9]
        repeat' apply And.intro
        all_goals first | assumption | (intro h; rw [h6] at h; cases h; done) | (intro h; refine Jaq ?_ (by first | rfl | simp -implicitDefEqProofs (disch := omega) only [go_sem]); first | exact j0 h | exact j1 h | exact j2 h | exact j3 h | exact j4 h | exact j5 h) | (intro h; simp -implicitDefEqProofs (disch := omega) only [go_sem]; done) | (intros; trivial)
    . rintro D hD hd E σ ⟨h1, h2, s6a, s6b, j0, j1, j2, j3, j4, j5⟩
      have d5 : D 5 = true := hd ⟨5, .data⟩ (by simp) rfl
      have q5 := j5 d5
      cases h6 : D 6
      . have g6 := s6a h6; simp -implicitDefEqProofs (disch := omega) only [go_sem, h1, h2, q5, g6, h8, ht, h9]
        repeat' apply And.intro
        all_goals first | assumption | (intro h; rw [h6] at h; cases h; done) | (intro h; refine Jaq ?_ (by first | rfl | simp -implicitDefEqProofs (disch := omega) only [go_sem]); first | exact j0 h | exact j1 h | exact j2 h | exact j3 h | exact j4 h | exact j5 h) | (intro h; simp -implicitDefEqProofs (disch := omega) only [go_sem]; done) | (intros; trivial)
      . rw [show D 6 = D (0 + 1 + 1 + 1 + 1 + 1 + 1) from rfl] at h6; rw [hD] at h6; cases h6
  . rintro D E σ hD ⟨h1, h2, s6a, s6b, j0, j1, j2, j3, j4, j5⟩
    have g6 := s6b (hD 6 (by decide))
    have q0 := j0 (hD 0 (by decide))
    have q1 := j1 (hD 1 (by decide))
    have q2 := j2 (hD 2 (by decide))
    have q3 := j3 (hD 3 (by decide))
    have q4 := j4 (hD 4 (by decide))
    have q5 := j5 (hD 5 (by decide))
    simp -implicitDefEqProofs (disch := omega) only [go_sem, h1, h2, g6, results42]
abbrev YP (p : List Tot) : List AV := [TPL p]
def Jqs (l : List Tot) (i : Nat) : List Tot := (l.drop (2 * i)).take 2
def Jhi (l : List Tot) : Nat -> Nat -> List (List Tot)
 | _, 0 => []
 | i, n + 1 => Jqs l i :: Jhi l (i + 1) n
@[go_sem] theorem JcD (p : Nat -> Bool) (l : List (List Tot)) : AV.namesL p ((l.map YP).map .tup) = false := by
 rw [L19]; exact Jaj p l _ λ _ => rfl
theorem Jn7 {b : List Tot} {i n : Nat} {x : List AV} {f : List (List AV)} (h : (Jhi b i n).map YP = x :: f) : ∃ m, n = m + 1 /\ x = YP (Jqs b i) /\ f = (Jhi b (i + 1) m).map YP := by
 cases n with
 | zero => cases h
 | succ m => simp only [Jhi, L0j, List.cons.injEq] at h; exact ⟨m, rfl, h.1.symm, h.2.symm⟩
theorem JqI {b : List Tot} {i n : Nat} (h : (Jhi b i n).map YP = []) : n = 0 := by
 cases n with
 | zero => rfl
 | succ m => simp [Jhi] at h
theorem Jpa (b : List Tot) (k : Int) (f : 1 <= k) : Ev prog 77 [TPL b, I k] (.clo 121 [.pt (TPL b) 0, .pt (I k) 0]) := by
 refine Jed (r := .clo 121 [.nptr 129 1 [TPL b], .nptr 3 1 [I k]]) ?_ _
 refine EW [2] func77 ?_
 simp -implicitDefEqProofs (disch := omega) only [go_sem, ntmps77]
 refine Jab (λ h => absurd h (by omega)) (λ h => ?_)
 simp -implicitDefEqProofs (disch := omega) only [go_sem, results77]
theorem Jnn (b : List Tot) (m : Nat) (D : b.length = 2 * m) (B : b.length <= 1000000000) (σ : Jac) : SOK prog 121 [.pt (TPL b) 0, .pt (I 2) 0] σ ((Jhi b 0 m).map YP) := by
 refine Jkx func121 rfl (by kernel_rfl) mo (nb rfl) ?_ rfl λ l => ?_
 . exact JcD allB _
 . simp -implicitDefEqProofs (disch := omega) only [go_sem, ntmps121]
   refine Jag (λ n E σ => ∃ i : Nat, i + n = m /\ E 0 = .yld l /\ E 1 = .pt (TPL b) 0 /\ E 2 = .pt (I 2) 0 /\ E 4 = I ((2 * i : Nat) : Int) /\ E 31 = .tup (((Jhi b i n).map YP).map .tup)) m ⟨0, by omega, ?_⟩ ?_
   . simp -implicitDefEqProofs (disch := omega) only [go_sem]
     simp
   . rintro n E σ ⟨i, C, o, j, u, w, f⟩
     simp -implicitDefEqProofs (disch := omega) only [go_sem, o, j, u, w, f]
     cases n with
     | zero =>
      refine Jas (by omega) ?_
      simp -implicitDefEqProofs (disch := omega) only [go_sem, o, j, u, w, f]
      exact .inl rfl
     | succ n =>
      have g : min (2 : Int) ((min (b.length - 2 * i) (b.length - 2 * i) : Nat) : Int) = 2 := by omega
      have z : ((2 * i : Nat) : Int) + 2 = ((2 * i + 2 : Nat) : Int) := by omega
      rw [Jhi] at f
      refine Jbn (by omega) ?_
      simp -implicitDefEqProofs (disch := omega) only [go_sem, o, j, u, w, f, L01, L0g, g, z]
      refine Jkw (sz := 9) (es := b.map TP) (2 * i) (2 * i + 2) (km := .i64) (by simp -implicitDefEqProofs (disch := omega) only [go_sem, j]) JvD JvH (by decide) (by simp -implicitDefEqProofs (disch := omega) only [go_sem]) (by simp)
       (Jbk (k := .i64) (n := ((2 * i + 2 : Nat) : Int)) (by simp -implicitDefEqProofs (disch := omega) only [go_sem]) (by omega) (Jbk (k := .i64) (n := ((2 * i : Nat) : Int)) (by simp -implicitDefEqProofs (disch := omega) only [go_sem]) (by omega) ⟨by omega, by omega, by omega, by rw [L0b]; omega⟩)) ?_
      have A : (b.drop (2 * i)).take (2 * i + 2 - 2 * i) = Jqs b i := by rw [show 2 * i + 2 - 2 * i = 2 from by omega]; rfl
      simp -implicitDefEqProofs (disch := omega) only [go_sem, o, j, u, w, f, g, z, A]
      have y : 2 * (i + 1) = 2 * i + 2 := by omega
      refine ⟨Jad n (by omega) ⟨i + 1, by omega, ?_⟩, ?_⟩
      . simp -implicitDefEqProofs (disch := omega) only [go_sem, o, j, u, w, f, g, z, A, y]
      . exact .inr trivial
theorem JsH (l : List Tot) (i : Nat) (h : 2 * i + 1 < l.length) : Jqs l i = [gd l (2 * i), gd l (2 * i + 1)] := by
 refine L2a λ k => ?_
 unfold Jqs; rw [L0k]
 by_cases hk : k < 2
 . rw [if_pos hk, L0B]
   rcases (show k = 0 \/ k = 1 by omega) with rfl | rfl
   . rw [L0Q, JaA l _ (by omega)]; rfl
   . rw [JaA l _ (by omega)]; rfl
 . rw [if_neg hk, L1a (by simp; omega)]
theorem JlA (l : List Tot) (i : Nat) (h : 2 * i + 1 < l.length) : JcV (l.take (2 * (i + 1))) = JcV (l.take (2 * i)) ++ [Jet (gd l (2 * i)) (gd l (2 * i + 1))] := by
 refine JeU ?_ λ j f => ?_
 . rw [L0a, JaN, JaN, L01, L01, L18]; omega
 . rw [JaN, L01] at f
   rw [JcW _ _ (by rw [L01]; omega), Jfp _ _ _ (by omega), Jfp _ _ _ (by omega)]
   by_cases e : j < i
   . rw [JcM _ _ _ (by rw [JaN, L01]; omega), JcW _ _ (by rw [L01]; omega), Jfp _ _ _ (by omega), Jfp _ _ _ (by omega)]
   . obtain rfl : j = i := by omega
     rw [JbB _ _ _ (by rw [JaN, L01]; omega), JaN, L01, show j - min (2 * j) l.length / 2 = 0 from by omega]; rfl
abbrev LP (f : ByteArray) (l : List Ch) : AV := .agg [Str f, CL l]
theorem JqP (f : ByteArray) (l : List Ch) : Ev prog 41 [LP f l] (.clo 76 [.pt (LP f l) 0]) := by
 refine Jed (r := .clo 76 [.nptr 71 2 [LP f l]]) ?_ _
 refine EV func41 ?_
 simp -implicitDefEqProofs (disch := omega) only [go_sem, ntmps41]; simp -implicitDefEqProofs (disch := omega) only [go_sem, results41]
def Jc0 (f : ByteArray) (l : List Ch) : Nat -> Nat -> List (List Tot)
 | _, 0 => []
 | k, n + 1 => rowT f l k :: Jc0 f l (k + 1) n
theorem JqN (f : ByteArray) (l : List Ch) (v : Nat) (g : v < 64) : (rowT f l 0).take (v + 1) = (rowT f l 0).take v ++ [Jg1 f l v] := by
 rw [L0D, JaA _ v (by rw [JaS f l 0 (by omega)]; omega)]
 have : gd (rowT f l 0) v = Jg1 f l (v : Int) := by unfold rowT gd; simp [g]
 rw [this]; rfl
theorem JmK (σ : Jac) : only (inI []) σ = stO [] := by
 funext id; rfl
set_option maxHeartbeats 4000000 in
theorem JmQ (f : ByteArray) (l : List Ch) (hk : f.size <= 1000) (hl : ∀ c ∈ l, c.ok) (hn : l.length <= 60) : SOK prog 76 [.pt (LP f l) 0] (stO []) ((Jc0 f l 0 7).map YP) := by
 refine JqY [6] func76 rfl (by kernel_rfl) mo (nb rfl) rfl ?_ rfl λ y => ?_
 . exact JcD allB _
 . simp -implicitDefEqProofs (disch := omega) only [go_sem, ntmps76]
   refine Jag (λ n E D => ∃ v : Nat, v + n = 64 /\ E 0 = .yld y /\ E 1 = .pt (LP f l) 0 /\ E 7 = I v /\ E 45 = .tup (((Jc0 f l 0 7).map YP).map .tup) /\ E 3 = .own 161480752 9 0 v /\ D 161480752 = some ⟨125, 9, ((rowT f l 0).take v).map TP⟩) 64 ⟨0, by omega, ?_⟩ ?_
   . simp -implicitDefEqProofs (disch := omega) only [go_sem]
     simp
   . rintro n E D ⟨v, hv, u, w, G, j, F, B⟩
     simp -implicitDefEqProofs (disch := omega) only [go_sem, u, w, G, j]
     refine Jab (λ hc => ?_) (λ hc => ?_)
     . have ad : v < 64 := by omega
       have o := JqN f l v ad; have ah := Jbt f (JaK (viS v))
       have A := JaS f l 0 (by omega)
       simp -implicitDefEqProofs (disch := omega) only [go_sem, u, w, G, j]
       refine Jaa (JqR f v (by omega) (by omega) (by omega)) ?_
       simp -implicitDefEqProofs (disch := omega) only [go_sem, u, w, G, j]
       refine Jaa (Jyu l v (by omega)) ?_ (h4 := .inr (JxF _))
       simp -implicitDefEqProofs (disch := omega) only [go_sem, u, w, G, j]
       refine Jaa (Jmx (Jn9 f v) (ofF l v) ah (JtK hl v) (L0m (Jlz l v) (by omega))) ?_ (h4 := .inr (JxG _))
       have ac : Jj4 (Jn9 f v) (ofF l v) = Jg1 f l v := rfl
       rw [ac]
       have ab : (Jg1 f l v).1.length = 8 := Jhu _
       generalize Jg1 f l v = t at *; obtain ⟨s, d⟩ := t
       have V : ((rowT f l 0).take v).length = v := by rw [L01, A]; omega
       have S : ((rowT f l 0).take v).map TP ++ [TP (s, d)] = ((rowT f l 0).take (v + 1)).map TP := by rw [o]; simp
       have h8 : s.length = 8 := ab
       simp -implicitDefEqProofs (disch := omega) only [go_sem, u, w, G, j, F, B, V, h8]
       refine Jad (n - 1) (by omega) ⟨v + 1, by omega, ?_⟩
       rw [<- S]; simp -implicitDefEqProofs (disch := omega) only [go_sem, u, w, G, j, F, B, V, h8, L05]
       simp
     . have e : v = 64 := by omega
       subst e
       have o : (rowT f l 0).take 64 = rowT f l 0 := L03 (by rw [JaS f l 0 (by omega)]; omega)
       rw [o] at B; simp -implicitDefEqProofs (disch := omega) only [go_sem, u, w, G, j, F, B]
       refine Jag (λ n E D => ∃ k x : Nat, k + n = 6 /\ (x = 161480752 \/ x = 161480785) /\ E 0 = .yld y /\ E 1 = .pt (LP f l) 0 /\ E 45 = .tup (((Jc0 f l k (n + 1)).map YP).map .tup) /\ E 3 = .own x 9 0 (2 ^ n) /\ D x = some ⟨125, 9, (rowT f l k).map TP⟩) 6 ⟨0, 161480752, by omega, .inl rfl, ?_⟩ ?_
       . simp -implicitDefEqProofs (disch := omega) only [go_sem, u, w, G, j, F, B]
       . clear u w G j F B hc o E D
         rintro n E D ⟨k, x, al, hx, u, w, j, F, B⟩
         have A := JaS f l k (by omega)
         rw [show 6 - k = n from by omega] at A
         have U := Ji2 f hl hn k (by omega)
         have aj : 2 ^ n <= 64 := by
          have : 2 ^ n <= 2 ^ 6 := L2i (by omega) (by omega)
          simpa using this
         rw [Jc0] at j
         have o : (rowT f l k).take (2 ^ n) = rowT f l k := L03 (by omega)
         have H : ∀ (L : Nat -> Bool) (D : Jac), frz L (inL []) D (.tup (.tup (YP (rowT f l k)) :: ((Jc0 f l (k + 1) n).map YP).map .tup)) = .tup (.tup (YP (rowT f l k)) :: ((Jc0 f l (k + 1) n).map YP).map .tup) := λ L D => Jr5 (c := .tup (((rowT f l k :: Jc0 f l (k + 1) n).map YP).map .tup)) (JcD allB (rowT f l k :: Jc0 f l (k + 1) n)) L (inL []) D
         rcases hx with rfl | rfl
         all_goals
          simp -implicitDefEqProofs (disch := omega) only [go_sem, u, w, j, F, B]
          refine JaW (Ji8 _ _ _ _ _) [161480752, 161480785] ?_
          simp -implicitDefEqProofs (disch := omega) only [go_sem, u, w, j, F, B, o, A, H]
          refine ⟨?_, .inr trivial⟩
          refine Jab (λ Y => ?_) (λ Y => ?_)
          . obtain ⟨m, rfl⟩ : ∃ m, n = m + 1 := ⟨n - 1, by
             have : n ≠ 0 := λ e => by subst e; simp at Y
             omega⟩
            have am : 2 ^ (m + 1) = 2 * 2 ^ m := by rw [L0W]; omega
            simp -implicitDefEqProofs (disch := omega) only [go_sem, u, w, j, F, B, o, A, H]
            refine Jaa (Jpa (rowT f l k) 2 (by omega)) ?_
            simp -implicitDefEqProofs (disch := omega) only [go_sem, u, w, j, F, B, o, A, H]
            refine Jbs ?_
            refine JcG [] [161480784] 10092644 ((Jhi (rowT f l k) 0 (2 ^ m)).map YP) (λ xs D => ∃ i n : Nat, i + n = 2 ^ m /\ xs = (Jhi (rowT f l k) i n).map YP /\ D 161480784 = some ⟨129, 1, [.own 161480785 9 0 i]⟩ /\ D 161480785 = some ⟨125, 9, (JcV ((rowT f l k).take (2 * i))).map TP⟩)
             (g := 121) (caps := [.pt (TPL (rowT f l k)) 0, .pt (I 2) 0]) ?_ ?_ ?_ ?_ ?_ ?_ ?_ ?_
            . simp -implicitDefEqProofs (disch := omega) only [go_sem]
            . exact Jnn _ (2 ^ m) (by omega) (by omega) _
            . intro x hx
              obtain ⟨y, _, rfl⟩ := L04.1 hx
              rfl
            . simp -implicitDefEqProofs (disch := omega) only [go_sem]
            . simp -implicitDefEqProofs (disch := omega) only [go_sem]
            . refine ⟨0, 2 ^ m, by omega, rfl, ?_⟩
              simp -implicitDefEqProofs (disch := omega) only [go_sem]
              rfl
            . rintro M z y' ak ai ⟨i, n, aa, K, W, N⟩
              have P : M 5 = .ptr 161480784 1 0 0 := by rw [z]; simp -implicitDefEqProofs (disch := omega) only [go_sem]
              clear z u w j F B
              obtain ⟨k', rfl, rfl, rfl⟩ := Jn7 K.symm
              rw [JsH _ _ (by omega)]
              have t1 := U _ (Jan (rowT f l k) (2 * i) (by omega))
              have t2 := U _ (Jan (rowT f l k) (2 * i + 1) (by omega))
              have af := JlA (rowT f l k) i (by omega)
              have ae : (JcV ((rowT f l k).take (2 * i))).length = i := by rw [JaN, L01]; omega
              have J : (Jet (gd (rowT f l k) (2 * i)) (gd (rowT f l k) (2 * i + 1))).1.length = 8 := JbV _ _
              have hj := Jll (t1.mono (C := 1000000000000000) (by omega)) (t2.mono (C := 1000000000000000) (by omega))
              generalize JcV ((rowT f l k).take (2 * i)) = q at *; generalize gd (rowT f l k) (2 * i) = a at *; generalize gd (rowT f l k) (2 * i + 1) = b at *; generalize Jet a b = c at *; obtain ⟨cs, cd⟩ := c
              have J : cs.length = 8 := J
              have ag : q.take i = q := L03 (by omega)
              have Q := t1.1; have T := t2.1
              have X : (a.1.map I ++ [Str a.2]).take 9 = a.1.map I ++ [Str a.2] := L03 (by simp [Q])
              have Z : (b.1.map I ++ [Str b.2]).take 9 = b.1.map I ++ [Str b.2] := L03 (by simp [T])
              simp -implicitDefEqProofs (disch := omega) only [go_sem, P, W, N, Q, T, X, Z]
              refine Jaa hj ?_ (h4 := .inr (JxG _))
              simp -implicitDefEqProofs (disch := omega) only [go_sem, P, W, N, ae, J, ag]
              refine ⟨inL [], λ _ _ => rfl, i + 1, k', by omega, rfl, ?_⟩
              rw [af]; simp -implicitDefEqProofs (disch := omega) only [go_sem, Jdb]
            . rintro M z ai ⟨i, n, aa, K, W, N⟩
              have e0 : M 0 = .yld y := by rw [z]; simp -implicitDefEqProofs (disch := omega) only [go_sem, u]
              have P : M 5 = .ptr 161480784 1 0 0 := by rw [z]; simp -implicitDefEqProofs (disch := omega) only [go_sem]
              have e1 : M 1 = .pt (LP f l) 0 := by rw [z]; simp -implicitDefEqProofs (disch := omega) only [go_sem, w]
              have O : M 45 = .tup (((Jc0 f l (k + 1) (m + 1)).map YP).map .tup) := by
               rw [z]; simp -implicitDefEqProofs (disch := omega) only [go_sem]
               exact Jpr (inI [161480784]) (a := .tup (((Jc0 f l (k + 1) (m + 1)).map YP).map .tup)) (JcD allB _)
              have hn := JqI K.symm; subst hn
              obtain rfl : i = 2 ^ m := by omega
              have R : JcV ((rowT f l k).take (2 * 2 ^ m)) = rowT f l (k + 1) := by rw [L03 (by omega)]; rfl
              rw [R] at N; simp -implicitDefEqProofs (disch := omega) only [go_sem, e0, e1, P, O, W, N]
              refine Jad m (by omega) ⟨k + 1, 161480785, by omega, .inr rfl, ?_⟩
              simp -implicitDefEqProofs (disch := omega) only [go_sem, e0, e1, P, O, W, N]
          . obtain rfl : n = 0 := by
             rcases n with _ | n
             . rfl
             . exact absurd (show (1 : Int) < ((2 ^ (n + 1) : Nat) : Int) by rw [L0W]; have := L1Z n; omega) Y
            simp -implicitDefEqProofs (disch := omega) only [go_sem, u, w, j, F, B, o, A, H]
            exact .inl rfl
theorem Jic {g : ByteArray} {l : List Ch} {k n : Nat} {x : List AV} {f : List (List AV)} (h : (Jc0 g l k n).map YP = x :: f) : ∃ m, n = m + 1 /\ x = YP (rowT g l k) /\ f = (Jc0 g l (k + 1) m).map YP := by
 cases n with
 | zero => cases h
 | succ m => simp only [Jc0, L0j, List.cons.injEq] at h; exact ⟨m, rfl, h.1.symm, h.2.symm⟩
theorem Jkn {f : ByteArray} {l : List Ch} {k n : Nat} (h : (Jc0 f l k n).map YP = []) : n = 0 := by
 cases n with
 | zero => rfl
 | succ m => simp [Jc0] at h
def Jj5 (f : ByteArray) (l : List Ch) : Bool := decide (f.size = 32) && Jb1 l
theorem Jkq (f : ByteArray) (l : List Ch) (R : l.length <= 9223372036854775807) (h : Jj5 f l = true) : Ev prog 14 [LP f l] (.tup [RP (JcO f l), I 0]) := by
 have L := h; simp only [Jj5, L00, decide_eq_true_eq] at L; obtain ⟨X, Q⟩ := L
 obtain ⟨M, A⟩ := JcS l Q
 refine EV func14 ?_
 simp -implicitDefEqProofs (disch := omega) only [go_sem, ntmps14]; have N := Jdt f l R
 rw [show (decide (f.size = 32) && Jb1 l) = true from h] at N
 refine Jaa N ?_
 simp -implicitDefEqProofs (disch := omega) only [go_sem]
 refine Jaa (JqP f l) ?_
 simp -implicitDefEqProofs (disch := omega) only [go_sem]
 refine Jbs ?_
 refine JcG [] [31457312, 31457344] 1966180 ((Jc0 f l 0 7).map YP) (λ W P => ∃ k n : Nat, k + n = 7 /\ W = (Jc0 f l k n).map YP /\ P 31457312 = some ⟨66, 2, [.agg [.v (.slice none 0 0), .v (.string ByteArray.empty)]]⟩ /\ ∃ t : Tot, t.1.length = 8 /\ P 31457344 = some ⟨125, 9, [TP t]⟩ /\ (0 < k -> t = gd (rowT f l (k - 1)) 0))
  (g := 76) (caps := [.pt (LP f l) 0]) ?_ ?_ ?_ ?_ ?_ ?_ ?_ ?_
 . simp -implicitDefEqProofs (disch := omega) only [go_sem]
 . rw [JmK]; exact JmQ f l (by omega) A M
 . intro x T
   obtain ⟨y, _, rfl⟩ := L04.1 T
   rfl
 . simp -implicitDefEqProofs (disch := omega) only [go_sem]
 . simp -implicitDefEqProofs (disch := omega) only [go_sem]
 . refine ⟨0, 7, by omega, rfl, ?_, (List.replicate 8 0, ⟨#[]⟩), by simp, ?_, by omega⟩
   . simp -implicitDefEqProofs (disch := omega) only [go_sem]
   . simp -implicitDefEqProofs (disch := omega) only [go_sem]
     rfl
 . rintro C i Z O J ⟨k, n, F, w, B, t, j, E, m⟩
   have D : C 4 = .ptr 31457344 9 0 0 := by rw [i]; simp -implicitDefEqProofs (disch := omega) only [go_sem]
   clear i
   obtain ⟨U, rfl, rfl, rfl⟩ := Jic w.symm
   have H := JaS f l k (by omega)
   have Y := L1Z (6 - k)
   have V := Ji2 f A M k (by omega) _ (Jan (rowT f l k) 0 (by omega))
   have u := V.1; generalize z : gd (rowT f l k) 0 = a at *
   have o : (a.1.map I ++ [Str a.2]).take 9 = a.1.map I ++ [Str a.2] := L03 (by simp [u])
   simp -implicitDefEqProofs (disch := omega) only [go_sem, D, E, B, u, o, H, z]
   refine ⟨inL [], λ _ _ => rfl, k + 1, U, by omega, rfl, ?_, a, u, ?_, λ _ => by rw [L1e]; exact z.symm⟩
   . simp -implicitDefEqProofs (disch := omega) only [go_sem, Jdb, B]
   . simp -implicitDefEqProofs (disch := omega) only [go_sem, Jdb, j]
 . rintro C i J ⟨k, n, F, w, B, t, j, E, m⟩
   have D : C 4 = .ptr 31457344 9 0 0 := by rw [i]; simp -implicitDefEqProofs (disch := omega) only [go_sem]
   have K : C 2 = .ptr 31457312 2 0 0 := by rw [i]; simp -implicitDefEqProofs (disch := omega) only [go_sem]
   clear i; have G := Jkn w.symm; subst G
   obtain rfl : k = 7 := by omega
   have S : t = JcO f l := m (by omega)
   subst S
   have o : ((JcO f l).1.map I ++ [Str (JcO f l).2]).take 9 = (JcO f l).1.map I ++ [Str (JcO f l).2] := L03 (by simp [j])
   simp -implicitDefEqProofs (disch := omega) only [go_sem, D, E, B, K, j, o]
   refine Jaa (Je8 (JcO f l) j) ?_
   simp -implicitDefEqProofs (disch := omega) only [go_sem, D, E, B, K, j, o, results14]
theorem JvM (i : Nat) (h : i < 64) : Ja0 .xor .i64 (i : Int) 1 = (sibN i : Nat) := by
 have f : ∀ i : Fin 64, Ja0 .xor .i64 ((i.1 : Nat) : Int) 1 = ((sibN i.1 : Nat) : Int) := by decide +kernel
 exact f ⟨i, h⟩
def JfH (f : ByteArray) (l : List Ch) (h k : Nat) : List Tot := (List.range (min k 6)).map λ k => gd (rowT f l k) (sibN (h / 2 ^ k))
theorem JnY (f : ByteArray) (l : List Ch) (h k : Nat) (g : k < 6) : JfH f l h (k + 1) = JfH f l h k ++ [gd (rowT f l k) (sibN (h / 2 ^ k))] := by
 unfold JfH
 rw [show min (k + 1) 6 = min k 6 + 1 from by omega, L1d, L1b, show min k 6 = k from by omega]; rfl
theorem JtT {h k : Nat} (f : h < 64) (m : k < 6) : sibN (h / 2 ^ k) < 2 ^ (6 - k) /\ h / 2 ^ k < 64 := by
 have g : h / 2 ^ k < 2 ^ (6 - k) := by
  rw [L1R (L1Z k), <- Nat.pow_add, show 6 - k + k = 6 from by omega]; omega
 have i : 2 ^ (6 - k) = 2 * 2 ^ (6 - (k + 1)) := by rw [show 6 - k = (6 - (k + 1)) + 1 from by omega, L0W]; omega
 have j : h / 2 ^ k <= h := Nat.div_le_self _ _
 generalize 2 ^ (6 - (k + 1)) = M at *; generalize 2 ^ (6 - k) = N at *; generalize h / 2 ^ k = x at *
 refine ⟨?_, by omega⟩
 unfold sibN; split <;> omega
theorem Jgn (key : ByteArray) (l : List Ch) (h : Nat) (hl : l.length <= 9223372036854775807) (hled : Jj5 key l = true) (h63 : h < 64) : Ev prog 17 [LP key l, I h] (.tup [AP (ownA key l h), I 0]) := by
 have h' := hled; simp only [Jj5, L00, decide_eq_true_eq] at h'; obtain ⟨hk, hc⟩ := h'
 obtain ⟨hn, hok⟩ := JcS l hc
 refine EW [10] func17 ?_
 simp -implicitDefEqProofs (disch := omega) only [go_sem, ntmps17]; have hv := Jdt key l hl
 rw [show (decide (key.size = 32) && Jb1 l) = true from hled] at hv
 refine Jaa hv ?_
 simp -implicitDefEqProofs (disch := omega) only [go_sem]; have hw := Jb0 h 0 63
 rw [show inF h 0 63 = true from by simp [inF]; omega] at hw
 refine Jaa hw ?_
 simp -implicitDefEqProofs (disch := omega) only [go_sem]
 refine Jaa (Jyu l h (by omega)) ?_ (h4 := .inr (JxF _))
 simp -implicitDefEqProofs (disch := omega) only [go_sem]
 refine Jaa (JqR key h (by omega) (by omega) (by omega)) ?_
 simp -implicitDefEqProofs (disch := omega) only [go_sem]; generalize hof : ofF l h = own at *; generalize hsa : Jn9 key h = salt at *
 refine Jak rfl ?_
 refine Jd2 37748832 37748833 0 3 66 2 (k := ⟨77, 4, [.agg [I h, CL own, Str salt, .v (.slice none 0 0)]]⟩) (el := .agg [I h, CL own, Str salt, .v (.slice none 0 0)]) (by simp -implicitDefEqProofs (disch := omega) only [go_sem]) (by decide) rfl rfl (by simp) (by simp -implicitDefEqProofs (disch := omega) only [go_sem]) rfl ?_
 refine JB0 ?_
 simp -implicitDefEqProofs (disch := omega) only [go_sem]
 refine Jaa (JqP key l) ?_
 simp -implicitDefEqProofs (disch := omega) only [go_sem]
 refine Jbs ?_
 refine JcG [] [37748800, 37748832, 37748848] 2359396 ((Jc0 key l 0 7).map YP) (λ xs σ => ∃ k n : Nat, k + n = 7 /\ xs = (Jc0 key l k n).map YP /\ σ 37748800 = some ⟨77, 4, [.agg [I 0, .v (.slice none 0 0), Str ByteArray.empty, .v (.slice none 0 0)]]⟩ /\ σ 37748848 = some ⟨3, 1, [I ((h / 2 ^ k : Nat) : Int)]⟩ /\ σ 37748832 = some ⟨77, 4, [.agg [I h, CL own, Str salt, .own 37748833 2 0 (JfH key l h k).length]]⟩ /\ σ 37748833 = some ⟨66, 2, (JfH key l h k).map RP⟩)
  (g := 76) (caps := [.pt (LP key l) 0]) ?_ ?_ ?_ ?_ ?_ ?_ ?_ ?_
 . simp -implicitDefEqProofs (disch := omega) only [go_sem]
 . rw [JmK]; exact JmQ key l (by omega) hok hn
 . intro x hx
   obtain ⟨y, _, rfl⟩ := L04.1 hx
   rfl
 . simp -implicitDefEqProofs (disch := omega) only [go_sem]
 . simp -implicitDefEqProofs (disch := omega) only [go_sem]
 . refine ⟨0, 7, by omega, rfl, ?_⟩
   simp -implicitDefEqProofs (disch := omega) only [go_sem]
   simp [JfH]
   rfl
 . rintro E0 hE0 y' rest σ' ⟨k, n, hin, hxs, s4, s7, s6, sP⟩
   have e6 : E0 6 = .ptr 37748832 4 0 0 := by rw [hE0]; simp -implicitDefEqProofs (disch := omega) only [go_sem]
   have e7 : E0 7 = .ptr 37748848 1 0 0 := by rw [hE0]; simp -implicitDefEqProofs (disch := omega) only [go_sem]
   clear hE0
   obtain ⟨k', rfl, rfl, rfl⟩ := Jic hxs.symm
   have hrl := JaS key l k (by omega)
   have hpl : (JfH key l h k).length <= 6 := by simp [JfH]; omega
   have hdiv : (((h / 2 ^ k : Nat) : Int)).tdiv 2 = ((h / 2 ^ (k + 1) : Nat) : Int) := by
    rw [L0W, <- L2l, L1g (Int.natCast_nonneg _)]; generalize h / 2 ^ k = x
    omega
   have hdl : h / 2 ^ k <= h := Nat.div_le_self _ _
   have hdl2 : h / 2 ^ (k + 1) <= h := Nat.div_le_self _ _
   have hxs : k < 6 -> Ja0 .xor .i64 ((h / 2 ^ k : Nat) : Int) 1 = (sibN (h / 2 ^ k) : Nat) := λ hk => JvM _ (JtT h63 hk).2
   have hsl : k < 6 -> sibN (h / 2 ^ k) < 2 ^ (6 - k) := λ hk => (JtT h63 hk).1
   have hpn : k < 6 -> JfH key l h (k + 1) = JfH key l h k ++ [gd (rowT key l k) (sibN (h / 2 ^ k))] := JnY key l h k
   generalize hx : h / 2 ^ k = x at *; generalize hx1 : h / 2 ^ (k + 1) = x1 at *; simp -implicitDefEqProofs (disch := omega) only [go_sem, e6, e7, s6, s7, sP, hrl]
   refine Jab (λ hb => ?_) (λ hb => ?_)
   . have hk6 : k < 6 := by
      rcases L1p k 6 with h6 | h6
      . exact h6
      . obtain rfl : k = 6 := by omega
        simp at hb
     have hs1 := hsl hk6; have hxs := hxs hk6; have hpn := hpn hk6
     have hp64 : 2 ^ (6 - k) <= 64 := by
      have : 2 ^ (6 - k) <= 2 ^ 6 := L2i (by omega) (by omega)
      simpa using this
     have t1 := Ji2 key hok hn k (by omega) _ (Jan (rowT key l k) (sibN x) (by omega))
     have ha8 := t1.1; generalize hga : gd (rowT key l k) (sibN x) = a at *
     have ha9 : (a.1.map I ++ [Str a.2]).take 9 = a.1.map I ++ [Str a.2] := L03 (by simp [ha8])
     simp -implicitDefEqProofs (disch := omega) only [go_sem, e6, e7, s6, s7, sP, hrl, hxs, hga, ha8, ha9, hdiv]
     refine Jaa (Je8 a ha8) ?_ (h4 := .inr (JBd _))
     simp -implicitDefEqProofs (disch := omega) only [go_sem, e6, e7, s6, s7, sP, hrl, hxs, hga, ha8, ha9, hdiv, L05]
     refine ⟨inL [], λ _ _ => rfl, k + 1, k', by omega, rfl, ?_⟩
     rw [hpn, hx1]; simp -implicitDefEqProofs (disch := omega) only [go_sem, Jdb, s4, and_self, AV.namesB, AV.namesL]
   . obtain rfl : k = 6 := by
      rcases L1p k 6 with h6 | h6
      . have : 2 ^ 1 <= 2 ^ (6 - k) := L2i (by omega) (by omega)
        omega
      . omega
     simp -implicitDefEqProofs (disch := omega) only [go_sem, e6, e7, s6, s7, sP, hrl, hdiv]
     refine ⟨inL [], λ _ _ => rfl, 7, k', by omega, rfl, ?_⟩
     rw [show JfH key l h 7 = JfH key l h 6 from rfl, hx1]
     simp -implicitDefEqProofs (disch := omega) only [go_sem, Jdb, s4, s6, sP]
 . rintro E0 hE0 σ' ⟨k, n, hin, hxs, s4, s7, s6, sP⟩
   have e4 : E0 4 = .ptr 37748800 4 0 0 := by rw [hE0]; simp -implicitDefEqProofs (disch := omega) only [go_sem]
   have e6 : E0 6 = .ptr 37748832 4 0 0 := by rw [hE0]; simp -implicitDefEqProofs (disch := omega) only [go_sem]
   clear hE0; have hn0 := Jkn hxs.symm; subst hn0
   obtain rfl : k = 7 := by omega
   have hpp : JfH key l h 7 = Jgk key l h := rfl
   rw [hpp] at s6 sP
   refine JaW Plain.mono [37748832, 37748833] ?_
   simp -implicitDefEqProofs (disch := omega) only [go_sem, e4, e6, s4, s6, sP, L05]; simp -implicitDefEqProofs (disch := omega) only [go_sem, e4, e6, s4, s6, sP, L05, results17]
   rw [<- hof, <- hsa]; rfl
theorem Jsg (n : Int) : Ev prog 88 [I n] (B (!inF n (-1000000000000) 1000000000000)) := by
 refine EV func88 ?_
 simp -implicitDefEqProofs (disch := omega) only [go_sem, ntmps88]
 refine Jaa (Jb0 n (-1000000000000) 1000000000000) ?_
 simp -implicitDefEqProofs (disch := omega) only [go_sem, results88]
def JgU (l : List Int) (v : Nat) : Nat -> Int
 | 0 => -1
 | n + 1 => if inF (gd l v) (-1000000000000) 1000000000000 then JgU l (v + 1) n else v
theorem JjL (l : List Int) : ∀ n v, v + n = l.length -> (JgU l v n < 0 ↔ ∀ i, v <= i -> i < l.length -> inF (gd l i) (-1000000000000) 1000000000000 = true)
 | 0, v, h => by simp only [JgU]; constructor <;> intro _ <;> (try omega)
 | n + 1, v, h => by
  unfold JgU
  split
  . rename_i hc
    rw [JjL l n (v + 1) (by omega)]
    constructor
    . intro hh i h1 h2
      rcases L1p v i with h3 | h3
      . exact hh i h3 h2
      . obtain rfl : i = v := by omega
        exact hc
    . intro hh i h1 h2; exact hh i (by omega) h2
  . rename_i hc
    constructor
    . intro hh; omega
    . intro hh; exact absurd (hh v (L08 _) (by omega)) hc
theorem JpM (l : List Int) (y : l.length <= 1000000) : Ev prog 112 [SL l, .clo 88 []] (I (JgU l 0 l.length)) := by
 refine EV func112 ?_
 simp -implicitDefEqProofs (disch := omega) only [go_sem, ntmps112]
 refine Jag (λ n E w => ∃ v : Nat, v + n = l.length /\ E 0 = SL l /\ E 1 = .clo 88 [] /\ E 7 = I l.length /\ E 8 = I v /\ JgU l 0 l.length = JgU l v n) l.length ⟨0, by omega, ?_⟩ ?_
 . simp -implicitDefEqProofs (disch := omega) only [go_sem]
   simp
 . rintro n E w ⟨v, z, g, i, j, k, f⟩
   simp -implicitDefEqProofs (disch := omega) only [go_sem, g, i, j, k]
   refine Jab (λ u => ?_) (λ u => ?_)
   . simp -implicitDefEqProofs (disch := omega) only [go_sem, g, i, j, k]
     refine Jaa (Jsg _) ?_
     simp -implicitDefEqProofs (disch := omega) only [go_sem, g, i, j, k]
     obtain ⟨m, rfl⟩ : ∃ m, n = m + 1 := ⟨n - 1, by omega⟩
     refine Jab (λ o => ?_) (λ o => ?_)
     . simp -implicitDefEqProofs (disch := omega) only [go_sem, results112]
       rw [f]; simp [JgU, o]
     . simp -implicitDefEqProofs (disch := omega) only [go_sem, g, i, j, k]
       refine Jad m (by omega) ⟨v + 1, by omega, ?_⟩
       simp -implicitDefEqProofs (disch := omega) only [go_sem, g, i, j, k]
       refine ⟨by simp, ?_⟩
       rw [f]; simp at o; simp [JgU, o]
   . simp -implicitDefEqProofs (disch := omega) only [go_sem, results112]
     have : n = 0 := by omega
     subst this; rw [f]; rfl
def Jj2 (l : List Int) : Bool := decide (0 <= JgU l 0 l.length)
theorem Jf0 (l : List Int) (f : l.length <= 1000000) : Ev prog 66 [SL l, .clo 88 []] (B (Jj2 l)) := by
 refine EV func66 ?_
 simp -implicitDefEqProofs (disch := omega) only [go_sem, ntmps66]
 refine Jaa (JpM l f) ?_
 simp -implicitDefEqProofs (disch := omega) only [go_sem, results66]
 rfl
theorem JnH (l : List Int) : Jj2 l = !decide (∀ n ∈ l, -1000000000000 <= n /\ n <= 1000000000000) := by
 have g := JjL l l.length 0 (by omega)
 unfold Jj2
 rw [<- decide_not]; apply decide_eq_decide.2
 have j : (∀ n ∈ l, -1000000000000 <= n /\ n <= 1000000000000) ↔ JgU l 0 l.length < 0 := by
  rw [g]
  constructor
  . intro h i _ f
    have := h _ (Jan l i f)
    simp [inF, this]
  . intro h n k
    obtain ⟨i, f, rfl⟩ := L1h.1 k
    have := h i (L15 _) f
    rw [JhQ l i f] at this
    simpa [inF] using this
 rw [j]; omega
theorem Jrd (t : Tot) : JeF t = (decide (t.1.length = 8) && (decide (t.2.size = 32) && !Jj2 t.1)) := by
 unfold JeF; rw [JnH, Bool.not_not, L1j]
theorem Jn3 (t : Tot) (h : JeF t = false) : Ev prog 48 [RP t] (.tup [TP (List.replicate 8 0, ⟨#[]⟩), B false]) := by
 refine EW [4] func48 ?_
 rw [Jrd] at h; simp -implicitDefEqProofs (disch := omega) only [go_sem, ntmps48]
 refine Jab (λ k => ?_) (λ k => ?_)
 . simp -implicitDefEqProofs (disch := omega) only [go_sem, results48]
   rfl
 . simp -implicitDefEqProofs (disch := omega) only [go_sem]
   refine Jab (λ g => ?_) (λ g => ?_)
   . simp -implicitDefEqProofs (disch := omega) only [go_sem, results48]
     rfl
   . have i : t.1.length = 8 := by omega
     have f : t.2.size = 32 := by omega
     have m : Jj2 t.1 = true := by simpa [i, f] using h
     have j := Jf0 t.1 (by omega)
     rw [m] at j; simp -implicitDefEqProofs (disch := omega) only [go_sem]
     refine Jaa j ?_
     simp -implicitDefEqProofs (disch := omega) only [go_sem, results48]
     rfl
theorem JqC (t : Tot) (h : JeF t = true) : Ev prog 48 [RP t] (.tup [TP t, B true]) := by
 refine EW [4] func48 ?_
 rw [Jrd] at h; simp only [L00, decide_eq_true_eq, L0T] at h; obtain ⟨u, S, V⟩ := h
 have hc := Jf0 t.1 (by omega)
 rw [V] at hc; obtain ⟨s, d⟩ := t
 have u : s.length = 8 := u
 have S : d.size = 32 := S
 simp -implicitDefEqProofs (disch := omega) only [go_sem, ntmps48]
 refine Jas (by omega) ?_
 simp -implicitDefEqProofs (disch := omega) only [go_sem]
 refine Jas (by omega) ?_
 simp -implicitDefEqProofs (disch := omega) only [go_sem]
 refine Jaa hc ?_
 simp -implicitDefEqProofs (disch := omega) only [go_sem]
 have T : s.map I ≠ [] := by intro e; rw [L28] at e; subst e; simp at u
 have i : ∀ M N : ByteArray, List.take 8 (s.map I ++ [Str M]) ++ [Str N] ++ List.drop 9 (s.map I ++ [Str M]) = s.map I ++ [Str N] := λ M N => by
  rw [L1N (by simp [u]), L03 (by simp [u]), L2k (by simp [u])]; simp
 have f : ∀ N : ByteArray, (s.map I ++ [Str N]).take 9 = s.map I ++ [Str N] := λ N => L03 (by simp [u])
 have g : ((s.map I).take 8) = s.map I := L03 (by simp [u])
 refine Ji0 (Plain.mono) (λ D E Q => E 1 = .ptr 102760464 2 0 0 /\ E 2 = .ptr 102760480 9 0 0 /\ Q 102760464 = some ⟨66, 2, [RP (s, d)]⟩ /\ (D 7 = false -> Q 102760480 = some ⟨125, 9, [TP (List.replicate 8 0, ByteArray.empty)]⟩) /\ (D 7 = true -> Q 102760480 = some ⟨125, 9, [TP (s, d)]⟩) /\ (D 0 = true -> E 22 = .ptr 102760464 2 0 0) /\ (D 1 = true -> E 23 = SL s) /\ (D 2 = true -> E 24 = .pt (.agg (s.map I)) 0) /\ (D 3 = true -> E 25 = .agg (s.map I)) /\ (D 4 = true -> E 26 = .ptr 102760464 2 0 1) /\ (D 5 = true -> E 27 = Str d) /\ (D 6 = true -> E 28 = TP (s, d)) /\ (D 8 = true -> E 3 = B true)) ?_ ?_ ?_
 . simp -implicitDefEqProofs (disch := omega) only [go_sem, u, g, i, f]
   simp
 . simp only [Jih, and_true]
   refine ⟨?_, ?_, ?_, ?_, ?_, ?_, ?_, ?_, ?_⟩
   . rintro D O P E Q ⟨w, y, K, k, o, z, A, C, F, G, H, J, L⟩
     cases h7 : D 7
     . have j := k h7; simp -implicitDefEqProofs (disch := omega) only [go_sem, w, y, K, j, u, g, i, f]
       repeat' apply And.intro
       all_goals first | assumption | (intro h; rw [h7] at h; cases h; done) | (intro h; refine Jaq ?_ (by first | rfl | simp -implicitDefEqProofs (disch := omega) only [go_sem]); first | exact z h | exact A h | exact C h | exact F h | exact G h | exact H h | exact J h | exact L h) | (intro h; simp -implicitDefEqProofs (disch := omega) only [go_sem]; done) | (intros; trivial)
     . have j := o h7; simp -implicitDefEqProofs (disch := omega) only [go_sem, w, y, K, j, u, g, i, f]
       repeat' apply And.intro
       all_goals first | assumption | (intro h; rw [h7] at h; cases h; done) | (intro h; refine Jaq ?_ (by first | rfl | simp -implicitDefEqProofs (disch := omega) only [go_sem]); first | exact z h | exact A h | exact C h | exact F h | exact G h | exact H h | exact J h | exact L h) | (intro h; simp -implicitDefEqProofs (disch := omega) only [go_sem]; done) | (intros; trivial)
   . rintro D O P E Q ⟨w, y, K, k, o, z, A, C, F, G, H, J, L⟩
     have d0 : D 0 = true := P ⟨0, .data⟩ (by simp) rfl
     have W := z d0
     cases h7 : D 7
     . have j := k h7; simp -implicitDefEqProofs (disch := omega) only [go_sem, w, y, K, W, j, u, g, i, f]
       repeat' apply And.intro
       all_goals first | assumption | (intro h; rw [h7] at h; cases h; done) | (intro h; refine Jaq ?_ (by first | rfl | simp -implicitDefEqProofs (disch := omega) only [go_sem]); first | exact z h | exact A h | exact C h | exact F h | exact G h | exact H h | exact J h | exact L h) | (intro h; simp -implicitDefEqProofs (disch := omega) only [go_sem]; done) | (intros; trivial)
     . have j := o h7; simp -implicitDefEqProofs (disch := omega) only [go_sem, w, y, K, W, j, u, g, i, f]
       repeat' apply And.intro
       all_goals first | assumption | (intro h; rw [h7] at h; cases h; done) | (intro h; refine Jaq ?_ (by first | rfl | simp -implicitDefEqProofs (disch := omega) only [go_sem]); first | exact z h | exact A h | exact C h | exact F h | exact G h | exact H h | exact J h | exact L h) | (intro h; simp -implicitDefEqProofs (disch := omega) only [go_sem]; done) | (intros; trivial)
   . rintro D O P E Q ⟨w, y, K, k, o, z, A, C, F, G, H, J, L⟩
     have d1 : D 1 = true := P ⟨1, .data⟩ (by simp) rfl
     have R := A d1
     cases h7 : D 7
     . have j := k h7; simp -implicitDefEqProofs (disch := omega) only [go_sem, w, y, K, R, j, u, g, i, f]
       refine Jjg (es := s.map I) (m := 8) (by simp -implicitDefEqProofs (disch := omega) only [go_sem, R]) Jdq (by simp [u]) T (λ a U => by obtain ⟨x, _, rfl⟩ := L04.1 U; rfl) ?_
       simp -implicitDefEqProofs (disch := omega) only [go_sem, w, y, K, R, j, u, g, i, f]
       repeat' apply And.intro
       all_goals first | assumption | (intro h; rw [h7] at h; cases h; done) | (intro h; refine Jaq ?_ (by first | rfl | simp -implicitDefEqProofs (disch := omega) only [go_sem]); first | exact z h | exact A h | exact C h | exact F h | exact G h | exact H h | exact J h | exact L h) | (intro h; simp -implicitDefEqProofs (disch := omega) only [go_sem]; done) | (intros; trivial)
     . have j := o h7; simp -implicitDefEqProofs (disch := omega) only [go_sem, w, y, K, R, j, u, g, i, f]
       refine Jjg (es := s.map I) (m := 8) (by simp -implicitDefEqProofs (disch := omega) only [go_sem, R]) Jdq (by simp [u]) T (λ a U => by obtain ⟨x, _, rfl⟩ := L04.1 U; rfl) ?_
       simp -implicitDefEqProofs (disch := omega) only [go_sem, w, y, K, R, j, u, g, i, f]
       repeat' apply And.intro
       all_goals first | assumption | (intro h; rw [h7] at h; cases h; done) | (intro h; refine Jaq ?_ (by first | rfl | simp -implicitDefEqProofs (disch := omega) only [go_sem]); first | exact z h | exact A h | exact C h | exact F h | exact G h | exact H h | exact J h | exact L h) | (intro h; simp -implicitDefEqProofs (disch := omega) only [go_sem]; done) | (intros; trivial)
   . rintro D O P E Q ⟨w, y, K, k, o, z, A, C, F, G, H, J, L⟩
     have d2 : D 2 = true := P ⟨2, .data⟩ (by simp) rfl
     have X := C d2
     cases h7 : D 7
     . have j := k h7; simp -implicitDefEqProofs (disch := omega) only [go_sem, w, y, K, X, j, u, g, i, f]
       repeat' apply And.intro
       all_goals first | assumption | (intro h; rw [h7] at h; cases h; done) | (intro h; refine Jaq ?_ (by first | rfl | simp -implicitDefEqProofs (disch := omega) only [go_sem]); first | exact z h | exact A h | exact C h | exact F h | exact G h | exact H h | exact J h | exact L h) | (intro h; simp -implicitDefEqProofs (disch := omega) only [go_sem]; done) | (intros; trivial)
     . have j := o h7; simp -implicitDefEqProofs (disch := omega) only [go_sem, w, y, K, X, j, u, g, i, f]
       repeat' apply And.intro
       all_goals first | assumption | (intro h; rw [h7] at h; cases h; done) | (intro h; refine Jaq ?_ (by first | rfl | simp -implicitDefEqProofs (disch := omega) only [go_sem]); first | exact z h | exact A h | exact C h | exact F h | exact G h | exact H h | exact J h | exact L h) | (intro h; simp -implicitDefEqProofs (disch := omega) only [go_sem]; done) | (intros; trivial)
   . rintro D O P E Q ⟨w, y, K, k, o, z, A, C, F, G, H, J, L⟩
     cases h7 : D 7
     . have j := k h7; simp -implicitDefEqProofs (disch := omega) only [go_sem, w, y, K, j, u, g, i, f]
       repeat' apply And.intro
       all_goals first | assumption | (intro h; rw [h7] at h; cases h; done) | (intro h; refine Jaq ?_ (by first | rfl | simp -implicitDefEqProofs (disch := omega) only [go_sem]); first | exact z h | exact A h | exact C h | exact F h | exact G h | exact H h | exact J h | exact L h) | (intro h; simp -implicitDefEqProofs (disch := omega) only [go_sem]; done) | (intros; trivial)
     . have j := o h7; simp -implicitDefEqProofs (disch := omega) only [go_sem, w, y, K, j, u, g, i, f]
       repeat' apply And.intro
       all_goals first | assumption | (intro h; rw [h7] at h; cases h; done) | (intro h; refine Jaq ?_ (by first | rfl | simp -implicitDefEqProofs (disch := omega) only [go_sem]); first | exact z h | exact A h | exact C h | exact F h | exact G h | exact H h | exact J h | exact L h) | (intro h; simp -implicitDefEqProofs (disch := omega) only [go_sem]; done) | (intros; trivial)
   . rintro D O P E Q ⟨w, y, K, k, o, z, A, C, F, G, H, J, L⟩
     have d4 : D 4 = true := P ⟨4, .data⟩ (by simp) rfl
     have Z := G d4
     cases h7 : D 7
     . have j := k h7; simp -implicitDefEqProofs (disch := omega) only [go_sem, w, y, K, Z, j, u, g, i, f]
       repeat' apply And.intro
       all_goals first | assumption | (intro h; rw [h7] at h; cases h; done) | (intro h; refine Jaq ?_ (by first | rfl | simp -implicitDefEqProofs (disch := omega) only [go_sem]); first | exact z h | exact A h | exact C h | exact F h | exact G h | exact H h | exact J h | exact L h) | (intro h; simp -implicitDefEqProofs (disch := omega) only [go_sem]; done) | (intros; trivial)
     . have j := o h7; simp -implicitDefEqProofs (disch := omega) only [go_sem, w, y, K, Z, j, u, g, i, f]
       repeat' apply And.intro
       all_goals first | assumption | (intro h; rw [h7] at h; cases h; done) | (intro h; refine Jaq ?_ (by first | rfl | simp -implicitDefEqProofs (disch := omega) only [go_sem]); first | exact z h | exact A h | exact C h | exact F h | exact G h | exact H h | exact J h | exact L h) | (intro h; simp -implicitDefEqProofs (disch := omega) only [go_sem]; done) | (intros; trivial)
   . rintro D O P E Q ⟨w, y, K, k, o, z, A, C, F, G, H, J, L⟩
     have d3 : D 3 = true := P ⟨3, .data⟩ (by simp) rfl
     have Y := F d3
     have d5 : D 5 = true := P ⟨5, .data⟩ (by simp) rfl
     have q5 := H d5
     cases h7 : D 7
     . have j := k h7; simp -implicitDefEqProofs (disch := omega) only [go_sem, w, y, K, Y, q5, j, u, g, i, f]
       repeat' apply And.intro
       all_goals first | assumption | (intro h; rw [h7] at h; cases h; done) | (intro h; refine Jaq ?_ (by first | rfl | simp -implicitDefEqProofs (disch := omega) only [go_sem]); first | exact z h | exact A h | exact C h | exact F h | exact G h | exact H h | exact J h | exact L h) | (intro h; simp -implicitDefEqProofs (disch := omega) only [go_sem]; done) | (intros; trivial)
     . have j := o h7; simp -implicitDefEqProofs (disch := omega) only [go_sem, w, y, K, Y, q5, j, u, g, i, f]
       repeat' apply And.intro
       all_goals first | assumption | (intro h; rw [h7] at h; cases h; done) | (intro h; refine Jaq ?_ (by first | rfl | simp -implicitDefEqProofs (disch := omega) only [go_sem]); first | exact z h | exact A h | exact C h | exact F h | exact G h | exact H h | exact J h | exact L h) | (intro h; simp -implicitDefEqProofs (disch := omega) only [go_sem]; done) | (intros; trivial)
   . rintro D O P E Q ⟨w, y, K, k, o, z, A, C, F, G, H, J, L⟩
     have d6 : D 6 = true := P ⟨6, .data⟩ (by simp) rfl
     have q6 := J d6
     cases h7 : D 7
     . have j := k h7; simp -implicitDefEqProofs (disch := omega) only [go_sem, w, y, K, q6, j, u, g, i, f]
       repeat' apply And.intro
       all_goals first | assumption | (intro h; rw [h7] at h; cases h; done) | (intro h; refine Jaq ?_ (by first | rfl | simp -implicitDefEqProofs (disch := omega) only [go_sem]); first | exact z h | exact A h | exact C h | exact F h | exact G h | exact H h | exact J h | exact L h) | (intro h; simp -implicitDefEqProofs (disch := omega) only [go_sem]; done) | (intros; trivial)
     . rw [show D 7 = D (0 + 1 + 1 + 1 + 1 + 1 + 1 + 1) from rfl] at h7; rw [O] at h7; cases h7
   . rintro D O P E Q ⟨w, y, K, k, o, z, A, C, F, G, H, J, L⟩
     cases h7 : D 7
     . have j := k h7; simp -implicitDefEqProofs (disch := omega) only [go_sem, w, y, K, j, u, g, i, f]
       repeat' apply And.intro
       all_goals first | assumption | (intro h; rw [h7] at h; cases h; done) | (intro h; refine Jaq ?_ (by first | rfl | simp -implicitDefEqProofs (disch := omega) only [go_sem]); first | exact z h | exact A h | exact C h | exact F h | exact G h | exact H h | exact J h | exact L h) | (intro h; simp -implicitDefEqProofs (disch := omega) only [go_sem]; done) | (intros; trivial)
     . have j := o h7; simp -implicitDefEqProofs (disch := omega) only [go_sem, w, y, K, j, u, g, i, f]
       repeat' apply And.intro
       all_goals first | assumption | (intro h; rw [h7] at h; cases h; done) | (intro h; refine Jaq ?_ (by first | rfl | simp -implicitDefEqProofs (disch := omega) only [go_sem]); first | exact z h | exact A h | exact C h | exact F h | exact G h | exact H h | exact J h | exact L h) | (intro h; simp -implicitDefEqProofs (disch := omega) only [go_sem]; done) | (intros; trivial)
 . rintro D E Q O ⟨w, y, K, k, o, z, A, C, F, G, H, J, L⟩
   have j := o (O 7 (by decide))
   have W := z (O 0 (by decide))
   have R := A (O 1 (by decide))
   have X := C (O 2 (by decide))
   have Y := F (O 3 (by decide))
   have Z := G (O 4 (by decide))
   have q5 := H (O 5 (by decide))
   have q6 := J (O 6 (by decide))
   have q8 := L (O 8 (by decide))
   simp -implicitDefEqProofs (disch := omega) only [go_sem, w, y, j, q8, u, f, results48]
theorem JtF (s : List Int) (d : ByteArray) (w : s.length = 8) (i : ∀ n ∈ s, R64 n) (S : d.size <= 1000000) : prog.keyLits 3 125 (s.map (Value.int .i64) ++ [.string d]) = some (s.map (Lit.int .i64) ++ [.string d.data.toList]) := by
 match s, w, i with
 | [K, L, M, N, O, P, Q, R], _, i =>
  have j : ∀ n ∈ [K, L, M, N, O, P, Q, R], (Lit.int .i64 n).wf = true := λ n z => by
   have := i n z
   have o : IntKind.i64.min = -9223372036854775808 := by decide
   have u : IntKind.i64.max = 9223372036854775807 := by decide
   simp [Lit.wf, o, u]; exact this
  simp only [L0o, List.not_mem_nil, or_false, forall_eq_or_imp, forall_eq] at j; obtain ⟨C, D, E, F, G, H, I, J⟩ := j
  have y : d.size <= maxLen := by have : (1000000 : Nat) <= maxLen := by decide +kernel
                                  omega
  have g : prog.cellsOf 125 = 9 := by kernel_rfl
  have f : prog.cellsOf 122 = 8 := by kernel_rfl
  have k : prog.cellsOf 3 = 1 := by kernel_rfl
  have m : prog.cellsOf 9 = 1 := by kernel_rfl
  have A : prog.underlying 3 = some (.int .i64) := by kernel_rfl
  have B : prog.underlying 9 = some .string := by kernel_rfl
  simp [Program.keyLits, Tryz.underlying125, Tryz.underlying122, A, B, g, f, k, m, C, D, E, F, G, H, I, J, y, L1d]
theorem JtB (s : List Int) (d : ByteArray) (g : s.length = 8) : (Value.agg (s.map (Value.int .i64) ++ [Value.string d]).toArray).formed prog 125 = true := by
 have f : prog.cellsOf 125 = 9 := by kernel_rfl
 simp [Value.formed, Tryz.underlying125, f, g]
theorem Jl4 {a b : ByteArray} (h : a.data.toList = b.data.toList) : a = b := by
 cases a; cases b; simp only [ByteArray.mk.injEq]; exact L11.1 h
theorem JnJ (s : List Int) (d : ByteArray) (t : List Int) (e : ByteArray) : ((s, d) : Tot) = (t, e) ↔ s.map (Lit.int .i64) ++ [Lit.string d.data.toList] = t.map (Lit.int .i64) ++ [Lit.string e.data.toList] := by
 constructor
 . intro h; cases h; rfl
 . intro h
   obtain ⟨j, g⟩ := List.append_inj' h rfl
   have f : ∀ s t : List Int, s.map (Lit.int .i64) = t.map (Lit.int .i64) -> s = t := by
    intro s
    induction s with
    | nil => intro t h; cases t with | nil => rfl | cons _ _ => cases h
    | cons x s k => intro t h; cases t with | nil => cases h | cons y t => simp only [L0j, List.cons.injEq, Lit.int.injEq, true_and] at h; rw [h.1, k t h.2]
   have i : s = t := f s t j
   simp only [List.cons.injEq, Lit.string.injEq, and_true] at g; rw [i, Jl4 g]
theorem JsD (a : Acc) (c : Ch) : Ev prog 45 [CH c, .pt (AP a) 0] (B (decide (c.h ≠ a.h))) := by
 refine EV func45 ?_
 simp -implicitDefEqProofs (disch := omega) only [go_sem, ntmps45]; simp -implicitDefEqProofs (disch := omega) only [go_sem, results45]
 congr 2
 rw [L1c]; simp
def JgV (h : Int) (l : List Ch) (v : Nat) : Nat -> Int
 | 0 => -1
 | n + 1 => if (gd l v).h = h then JgV h l (v + 1) n else v
theorem JjM (h : Int) (l : List Ch) : ∀ n v, v + n = l.length -> (JgV h l v n < 0 ↔ ∀ i, v <= i -> i < l.length -> (gd l i).h = h)
 | 0, v, _ => by simp only [JgV]; constructor <;> intro _ <;> (try omega)
 | n + 1, v, hv => by
  unfold JgV
  split
  . rename_i hc
    rw [JjM h l n (v + 1) (by omega)]
    constructor
    . intro hh i h1 h2
      rcases L1p v i with h3 | h3
      . exact hh i h3 h2
      . obtain rfl : i = v := by omega
        exact hc
    . intro hh i h1 h2; exact hh i (by omega) h2
  . rename_i hc
    constructor
    . intro hh; omega
    . intro hh; exact absurd (hh v (L08 _) (by omega)) hc
theorem JpN (a : Acc) (l : List Ch) (y : l.length <= 1000000) : Ev prog 82 [CL l, .clo 45 [.pt (AP a) 0]] (I (JgV a.h l 0 l.length)) := by
 refine EV func82 ?_
 simp -implicitDefEqProofs (disch := omega) only [go_sem, ntmps82]
 refine Jag (λ n E w => ∃ v : Nat, v + n = l.length /\ E 0 = CL l /\ E 1 = .clo 45 [.pt (AP a) 0] /\ E 7 = I l.length /\ E 8 = I v /\ JgV a.h l 0 l.length = JgV a.h l v n) l.length ⟨0, by omega, ?_⟩ ?_
 . simp -implicitDefEqProofs (disch := omega) only [go_sem]
   simp
 . rintro n E w ⟨v, z, g, i, j, k, f⟩
   simp -implicitDefEqProofs (disch := omega) only [go_sem, g, i, j, k]
   refine Jab (λ u => ?_) (λ u => ?_)
   . simp -implicitDefEqProofs (disch := omega) only [go_sem, g, i, j, k]
     refine Jaa (JsD a _) ?_
     simp -implicitDefEqProofs (disch := omega) only [go_sem, g, i, j, k]
     obtain ⟨m, rfl⟩ : ∃ m, n = m + 1 := ⟨n - 1, by omega⟩
     refine Jab (λ o => ?_) (λ o => ?_)
     . simp -implicitDefEqProofs (disch := omega) only [go_sem, results82]
       rw [f]; simp [JgV, o]
     . simp -implicitDefEqProofs (disch := omega) only [go_sem, g, i, j, k]
       refine Jad m (by omega) ⟨v + 1, by omega, ?_⟩
       simp -implicitDefEqProofs (disch := omega) only [go_sem, g, i, j, k]
       refine ⟨by simp, ?_⟩
       rw [f]; simp at o; simp [JgV, o]
   . simp -implicitDefEqProofs (disch := omega) only [go_sem, results82]
     have : n = 0 := by omega
     subst this; rw [f]; rfl
theorem JjB (a : Acc) (l : List Ch) (m : l.length <= 1000000) : Ev prog 46 [CL l, .clo 45 [.pt (AP a) 0]] (B (!decide (∀ c ∈ l, c.h = a.h))) := by
 refine EV func46 ?_
 simp -implicitDefEqProofs (disch := omega) only [go_sem, ntmps46]
 refine Jaa (JpN a l m) ?_
 simp -implicitDefEqProofs (disch := omega) only [go_sem, results46]
 have g := JjM a.h l l.length 0 (by omega)
 have j : (∀ c ∈ l, c.h = a.h) ↔ JgV a.h l 0 l.length < 0 := by
  rw [g]
  constructor
  . intro h i _ f; exact h _ (Jan l i f)
  . intro h c k
    obtain ⟨i, f, rfl⟩ := L1h.1 k
    have := h i (L15 _) f
    rwa [JhQ l i f] at this
 rw [<- decide_not, decide_eq_decide.2 (show 0 <= JgV a.h l 0 l.length ↔ ¬ ∀ c ∈ l, c.h = a.h by rw [j]; omega)]
def Jvg (a : Acc) : Bool := inF a.h 0 63 && (Jb1 a.l && (decide (∀ c ∈ a.l, c.h = a.h) && (decide (a.s.size = 32) && decide (a.p.length = 6))))
theorem Jou (a : Acc) : Jm6 a = (Jvg a && decide (∀ t ∈ a.p, JeF t = true)) := by
 unfold Jm6 Jvg; simp only [L1j]
theorem JeP (t : Tot) (a : Acc) (hl : a.l.length <= 9223372036854775807) (hp : a.p.length <= 9223372036854775807) (ht : t.1.length <= 9223372036854775807) (htr : ∀ n ∈ t.1, R64 n) (htd : t.2.size <= 1000000) : Ev prog 19 [RP t, AP a] (B (JeO t a)) := by
 refine EW [17] func19 ?_
 unfold JeO; rw [Jou]
 have hpre : Jvg a = (inF a.h 0 63 && (Jb1 a.l && (decide (∀ c ∈ a.l, c.h = a.h) && (decide (a.s.size = 32) && decide (a.p.length = 6))))) := rfl
 simp -implicitDefEqProofs (disch := omega) only [go_sem, ntmps19]
 refine Jak rfl ?_
 refine JcU [41943072, 41943088] ?_
 simp -implicitDefEqProofs (disch := omega) only [go_sem]
 refine Jaa (Jb0 a.h 0 63) ?_
 cases hin : inF a.h 0 63
 . rw [hpre, hin]; simp -implicitDefEqProofs (disch := omega) only [go_sem, results19]
 simp -implicitDefEqProofs (disch := omega) only [go_sem]
 refine Jaa (Jb6 a.l hl) ?_
 cases hcs : Jb1 a.l
 . rw [hpre, hin, hcs]; simp -implicitDefEqProofs (disch := omega) only [go_sem, results19]
 obtain ⟨hn, hok⟩ := JcS _ hcs
 simp -implicitDefEqProofs (disch := omega) only [go_sem]
 refine Jaa (JjB a a.l (by omega)) ?_
 cases hot : decide (∀ c ∈ a.l, c.h = a.h)
 . rw [hpre, hin, hcs, hot]; simp -implicitDefEqProofs (disch := omega) only [go_sem, results19]
 simp -implicitDefEqProofs (disch := omega) only [go_sem]
 refine Jab (λ h32 => ?_) (λ h32 => ?_)
 . have : ¬ a.s.size = 32 := by omega
   rw [hpre, hin, hcs, hot, decide_eq_false this]; simp -implicitDefEqProofs (disch := omega) only [go_sem, results19]
 have h32 : a.s.size = 32 := by omega
 simp -implicitDefEqProofs (disch := omega) only [go_sem]
 refine Jab (λ h6 => ?_) (λ h6 => ?_)
 . have : ¬ a.p.length = 6 := by omega
   rw [hpre, hin, hcs, hot, decide_eq_true h32, decide_eq_false this]; simp -implicitDefEqProofs (disch := omega) only [go_sem, results19]
 have h6 : a.p.length = 6 := by omega
 rw [hpre, hin, hcs, hot, decide_eq_true h32, decide_eq_true h6]; simp only [L0h]; simp -implicitDefEqProofs (disch := omega) only [go_sem]
 refine Jaa (Jmx a.s a.l h32 hok (by omega)) ?_
 have hlf := Jmy a.s a.l hok hn; generalize Jj4 a.s a.l = lf at *; have hlf8 := hlf.1
 obtain ⟨k, hk⟩ : ∃ k : Nat, a.h = k := ⟨a.h.toNat, by simp [inF] at hin; omega⟩
 have hk63 : k < 64 := by simp [inF] at hin; omega
 have hkt : a.h.toNat = k := by omega
 rw [hkt]
 have hl9 : (lf.1.map I ++ [Str lf.2]).take 9 = lf.1.map I ++ [Str lf.2] := L03 (by simp [hlf8])
 simp -implicitDefEqProofs (disch := omega) only [go_sem, hlf8, hl9, hk, h6]
 refine Jag (λ n E σ => ∃ (v : Nat) (u : Tot), v + n = 6 /\ TotB (120000000000 + 1000000000000 * v) u /\ Jfg k a.p lf = Jfg (k / 2 ^ v) (a.p.drop v) u /\ (∀ i, i < v -> JeF (gd a.p i) = true) /\ E 2 = .pt (RP t) 0 /\ E 3 = .pt (AP a) 0 /\ E 6 = .ptr 41943136 9 0 0 /\ E 46 = RPL a.p /\ E 47 = I 6 /\ E 48 = I v /\ σ 41943136 = some ⟨125, 9, [TP u]⟩) 6 ⟨0, lf, by omega, hlf.mono (by omega), by simp, by simp, ?_⟩ ?_
 . simp -implicitDefEqProofs (disch := omega) only [go_sem, hlf8, hl9, hk, h6]
   simp [hk]
 . rintro n E σ ⟨v, u, hv, hu, hwk, hall, h2, h3, h6', h46, h47, h48, s6⟩
   have hu8 := hu.1; simp -implicitDefEqProofs (disch := omega) only [go_sem, h2, h3, h6', h46, h47, h48, s6]
   refine Jab (λ hc => ?_) (λ hc => ?_)
   . have hv6 : v < 6 := by omega
     simp -implicitDefEqProofs (disch := omega) only [go_sem, h2, h3, h6', h46, h47, h48, s6, h6]
     cases htv : JeF (gd a.p v)
     . refine Jaa (Jn3 (gd a.p v) htv) ?_
       simp -implicitDefEqProofs (disch := omega) only [go_sem, h2, h3, h6', h46, h47, h48, s6, h6]
       have hrep : (List.replicate 8 (0 : Int)).length = 8 := rfl
       have hr9 : ((List.replicate 8 (0 : Int)).map I ++ [Str ⟨#[]⟩]).take 9 = (List.replicate 8 0).map I ++ [Str ⟨#[]⟩] := rfl
       simp -implicitDefEqProofs (disch := omega) only [go_sem, h2, h3, h6', h46, h47, h48, s6, h6, hrep, hr9, results19]
       have : decide (∀ t ∈ a.p, JeF t = true) = false := by
        rw [decide_eq_false_iff_not]; intro hh
        have := hh _ (Jan a.p v (by omega))
        rw [htv] at this; cases this
       rw [this]; rfl
     . refine Jaa (JqC (gd a.p v) htv) ?_
       have hg : TotB 1000000000000 (gd a.p v) := by
        simp only [JeF, L00, decide_eq_true_eq] at htv
        exact ⟨htv.1.1, htv.2, htv.1.2⟩
       have hgv := L21 (show v < a.p.length by omega)
       rw [<- JhQ a.p v (by omega)] at hgv
       rw [hgv, Jfg] at hwk
       have hdd : k / 2 ^ v / 2 = k / 2 ^ (v + 1) := by rw [L0W, L2l]
       rw [hdd] at hwk
       have hst := Jvw (h := k / 2 ^ v) hg hu (by omega)
       have hnx : ∀ i, i < v + 1 -> JeF (gd a.p i) = true := λ i hi => by
        by_cases e : i = v
        . subst e; exact htv
        . exact hall i (by omega)
       generalize hgq : gd a.p v = g at *; have hg8 := hg.1
       have hg9 : (g.1.map I ++ [Str g.2]).take 9 = g.1.map I ++ [Str g.2] := L03 (by simp [hg8])
       have hu9 : (u.1.map I ++ [Str u.2]).take 9 = u.1.map I ++ [Str u.2] := L03 (by simp [hu8])
       have hj1 := Jll (hg.mono (C := 1000000000000000) (by omega)) (hu.mono (C := 1000000000000000) (by omega))
       have hj2 := Jll (hu.mono (C := 1000000000000000) (by omega)) (hg.mono (C := 1000000000000000) (by omega))
       have hl1 : (Jet g u).1.length = 8 := JbV _ _
       have hl2 : (Jet u g).1.length = 8 := JbV _ _
       have hsh : ((k : Int).fdiv (2 ^ min v 64)).tmod 2 = ((k / 2 ^ v % 2 : Nat) : Int) := by
        rw [show min v 64 = v from by omega, L1z _ (Int.pow_nonneg (by decide)), L0V (L1J (by omega) (Int.pow_nonneg (by decide)))]
        push_cast; rfl
       simp -implicitDefEqProofs (disch := omega) only [go_sem, h2, h3, h6', h46, h47, h48, s6, h6, hg8, hg9, hk, hsh]; generalize k / 2 ^ v = x at *
       refine Jab (λ hb => ?_) (λ hb => ?_)
       . have hx : x % 2 = 1 := by omega
         rw [show JiK x g u = Jet g u from if_pos hx] at hwk hst
         simp -implicitDefEqProofs (disch := omega) only [go_sem, h2, h3, h6', h46, h47, h48, s6, h6, hg8, hg9, hu8, hu9, hk]
         refine Jaa hj1 ?_
         simp -implicitDefEqProofs (disch := omega) only [go_sem, h2, h3, h6', h46, h47, h48, s6, h6, hl1, hu8, hk]
         refine Jad (n - 1) (by omega) ⟨v + 1, Jet g u, by omega, hst.mono (by push_cast; omega), hwk, hnx, ?_⟩
         simp -implicitDefEqProofs (disch := omega) only [go_sem, h2, h3, h6', h46, h47, h48, s6, h6, hl1, hu8, hk]
         simp
       . have hx : ¬ x % 2 = 1 := by omega
         rw [show JiK x g u = Jet u g from if_neg hx] at hwk hst
         simp -implicitDefEqProofs (disch := omega) only [go_sem, h2, h3, h6', h46, h47, h48, s6, h6, hg8, hg9, hu8, hu9, hk]
         refine Jaa hj2 ?_
         simp -implicitDefEqProofs (disch := omega) only [go_sem, h2, h3, h6', h46, h47, h48, s6, h6, hl2, hu8, hk]
         refine Jad (n - 1) (by omega) ⟨v + 1, Jet u g, by omega, hst.mono (by push_cast; omega), hwk, hnx, ?_⟩
         simp -implicitDefEqProofs (disch := omega) only [go_sem, h2, h3, h6', h46, h47, h48, s6, h6, hl2, hu8, hk]
         simp
   . obtain rfl : v = 6 := by omega
     have hall' : decide (∀ t ∈ a.p, JeF t = true) = true := by
      rw [decide_eq_true_iff]; intro t ht
      obtain ⟨i, hi, rfl⟩ := L1h.1 ht
      rw [<- JhQ a.p i hi]; exact hall i (by omega)
     rw [hall', L0h, hwk, L2k (by omega)]
     show awpC _ _ _ _ _
     simp -implicitDefEqProofs (disch := omega) only [go_sem, h2, h3, h6', h46, h47, h48, s6, h6]
     refine Jab (λ h8 => ?_) (λ h8 => ?_)
     . simp -implicitDefEqProofs (disch := omega) only [go_sem, h2, h3, h6', h46, h47, h48, s6, h6, results19]
       have : ¬ Jfg (k / 2 ^ 6) [] u = t := by
        rw [Jfg]; intro e; rw [e] at hu8; omega
       rw [decide_eq_false this]
     . rw [Jfg]; simp -implicitDefEqProofs (disch := omega) only [go_sem, h2, h3, h6', h46, h47, h48, s6, h6]; clear hc hall hall' hwk h3 h46 h47 h48 hlf8 hl9 hlf hpre hin hcs hn hok hot h32 hk hk63 hkt
       have h8 : t.1.length = 8 := by omega
       obtain ⟨s, d⟩ := t
       have h8 : s.length = 8 := h8
       have hur : ∀ n ∈ u.1, R64 n := λ n hn => by have := hu.2.1 n hn; unfold R64; omega
       have hud : u.2.size <= 1000000 := by have := hu.2.2; omega
       have hsr : ∀ n ∈ s, R64 n := htr
       have hsd : d.size <= 1000000 := htd
       have hne : s.map I ≠ [] := by intro e; rw [L28] at e; subst e; simp at h8
       have h88 : ((s.map I).take 8) = s.map I := L03 (by simp [h8])
       have hTT : ∀ M N : ByteArray, List.take 8 (s.map I ++ [Str M]) ++ [Str N] ++ List.drop 9 (s.map I ++ [Str M]) = s.map I ++ [Str N] := λ M N => by
        rw [L1N (by simp [h8]), L03 (by simp [h8]), L2k (by simp [h8])]; simp
       have hu9 : (u.1.map I ++ [Str u.2]).take 9 = u.1.map I ++ [Str u.2] := L03 (by simp [hu8])
       refine JqF (Plain.mono) (λ D E σ => E 2 = .pt (RP (s, d)) 0 /\ E 6 = .ptr 41943136 9 0 0 /\ σ 41943136 = some ⟨125, 9, [TP u]⟩ /\ (D 0 = true -> E 79 = TP u) /\ (D 1 = true -> E 80 = .pt (RP (s, d)) 0) /\ (D 2 = true -> E 81 = SL s) /\ (D 3 = true -> E 82 = .pt (.agg (s.map I)) 0) /\ (D 4 = true -> E 83 = .agg (s.map I)) /\ (D 5 = true -> E 84 = .pt (RP (s, d)) 1) /\ (D 6 = true -> E 85 = Str d) /\ (D 7 = true -> E 86 = TP (s, d)) /\ (D 8 = true -> E 87 = B (decide (u = (s, d)))) /\ (D 9 = true -> E 4 = B (decide (u = (s, d))))) 8 ?_ ?_ ?_ ?_
       . simp -implicitDefEqProofs (disch := omega) only [go_sem, h8, h88, hTT, hu9, hu8]
         exact ⟨h2, h6', s6, by simp⟩
       . simp only [Jjc, and_true]
         refine ⟨?_, ?_, ?_, ?_, ?_, ?_, ?_, ?_, ?_, ?_⟩
         . intro _; rintro D hD hd E σ ⟨h2, h6, s6, j0, j1, j2, j3, j4, j5, j6, j7, j8, j9⟩
           simp -implicitDefEqProofs (disch := omega) only [go_sem, h2, h6, s6, h8, h88, hTT, hu9, hu8]
           repeat' apply And.intro
           all_goals first | assumption | (intro h; refine Jaq ?_ (by first | rfl | simp -implicitDefEqProofs (disch := omega) only [go_sem]); first | exact j0 h | exact j1 h | exact j2 h | exact j3 h | exact j4 h | exact j5 h | exact j6 h | exact j7 h | exact j8 h | exact j9 h) | (intro h; simp -implicitDefEqProofs (disch := omega) only [go_sem]; done) | (intros; trivial)
         . intro _; rintro D hD hd E σ ⟨h2, h6, s6, j0, j1, j2, j3, j4, j5, j6, j7, j8, j9⟩
           simp -implicitDefEqProofs (disch := omega) only [go_sem, h2, h6, s6, h8, h88, hTT, hu9, hu8]
           repeat' apply And.intro
           all_goals first | assumption | (intro h; refine Jaq ?_ (by first | rfl | simp -implicitDefEqProofs (disch := omega) only [go_sem]); first | exact j0 h | exact j1 h | exact j2 h | exact j3 h | exact j4 h | exact j5 h | exact j6 h | exact j7 h | exact j8 h | exact j9 h) | (intro h; simp -implicitDefEqProofs (disch := omega) only [go_sem]; done) | (intros; trivial)
         . intro _; rintro D hD hd E σ ⟨h2, h6, s6, j0, j1, j2, j3, j4, j5, j6, j7, j8, j9⟩
           have d1 : D 1 = true := hd ⟨1, .data⟩ (by simp) rfl
           have q1 := j1 d1; simp -implicitDefEqProofs (disch := omega) only [go_sem, h2, h6, s6, q1, h8, h88, hTT, hu9, hu8]
           repeat' apply And.intro
           all_goals first | assumption | (intro h; refine Jaq ?_ (by first | rfl | simp -implicitDefEqProofs (disch := omega) only [go_sem]); first | exact j0 h | exact j1 h | exact j2 h | exact j3 h | exact j4 h | exact j5 h | exact j6 h | exact j7 h | exact j8 h | exact j9 h) | (intro h; simp -implicitDefEqProofs (disch := omega) only [go_sem]; done) | (intros; trivial)
         . intro _; rintro D hD hd E σ ⟨h2, h6, s6, j0, j1, j2, j3, j4, j5, j6, j7, j8, j9⟩
           have d2 : D 2 = true := hd ⟨2, .data⟩ (by simp) rfl
           have q2 := j2 d2; simp -implicitDefEqProofs (disch := omega) only [go_sem, h2, h6, s6, q2, h8, h88, hTT, hu9, hu8]
           refine Jjg (es := s.map I) (m := 8) (by simp -implicitDefEqProofs (disch := omega) only [go_sem, q2]) Jdq (by simp [h8]) hne (λ a ha => by obtain ⟨x, _, rfl⟩ := L04.1 ha; rfl) ?_
           simp -implicitDefEqProofs (disch := omega) only [go_sem, h2, h6, s6, q2, h8, h88, hTT, hu9, hu8]
           repeat' apply And.intro
           all_goals first | assumption | (intro h; refine Jaq ?_ (by first | rfl | simp -implicitDefEqProofs (disch := omega) only [go_sem]); first | exact j0 h | exact j1 h | exact j2 h | exact j3 h | exact j4 h | exact j5 h | exact j6 h | exact j7 h | exact j8 h | exact j9 h) | (intro h; simp -implicitDefEqProofs (disch := omega) only [go_sem]; done) | (intros; trivial)
         . intro _; rintro D hD hd E σ ⟨h2, h6, s6, j0, j1, j2, j3, j4, j5, j6, j7, j8, j9⟩
           have d3 : D 3 = true := hd ⟨3, .data⟩ (by simp) rfl
           have q3 := j3 d3; simp -implicitDefEqProofs (disch := omega) only [go_sem, h2, h6, s6, q3, h8, h88, hTT, hu9, hu8]
           repeat' apply And.intro
           all_goals first | assumption | (intro h; refine Jaq ?_ (by first | rfl | simp -implicitDefEqProofs (disch := omega) only [go_sem]); first | exact j0 h | exact j1 h | exact j2 h | exact j3 h | exact j4 h | exact j5 h | exact j6 h | exact j7 h | exact j8 h | exact j9 h) | (intro h; simp -implicitDefEqProofs (disch := omega) only [go_sem]; done) | (intros; trivial)
         . intro _; rintro D hD hd E σ ⟨h2, h6, s6, j0, j1, j2, j3, j4, j5, j6, j7, j8, j9⟩
           simp -implicitDefEqProofs (disch := omega) only [go_sem, h2, h6, s6, h8, h88, hTT, hu9, hu8]
           repeat' apply And.intro
           all_goals first | assumption | (intro h; refine Jaq ?_ (by first | rfl | simp -implicitDefEqProofs (disch := omega) only [go_sem]); first | exact j0 h | exact j1 h | exact j2 h | exact j3 h | exact j4 h | exact j5 h | exact j6 h | exact j7 h | exact j8 h | exact j9 h) | (intro h; simp -implicitDefEqProofs (disch := omega) only [go_sem]; done) | (intros; trivial)
         . intro _; rintro D hD hd E σ ⟨h2, h6, s6, j0, j1, j2, j3, j4, j5, j6, j7, j8, j9⟩
           have d5 : D 5 = true := hd ⟨5, .data⟩ (by simp) rfl
           have q5 := j5 d5; simp -implicitDefEqProofs (disch := omega) only [go_sem, h2, h6, s6, q5, h8, h88, hTT, hu9, hu8]
           repeat' apply And.intro
           all_goals first | assumption | (intro h; refine Jaq ?_ (by first | rfl | simp -implicitDefEqProofs (disch := omega) only [go_sem]); first | exact j0 h | exact j1 h | exact j2 h | exact j3 h | exact j4 h | exact j5 h | exact j6 h | exact j7 h | exact j8 h | exact j9 h) | (intro h; simp -implicitDefEqProofs (disch := omega) only [go_sem]; done) | (intros; trivial)
         . intro _; rintro D hD hd E σ ⟨h2, h6, s6, j0, j1, j2, j3, j4, j5, j6, j7, j8, j9⟩
           have d4 : D 4 = true := hd ⟨4, .data⟩ (by simp) rfl
           have q4 := j4 d4
           have d6 : D 6 = true := hd ⟨6, .data⟩ (by simp) rfl
           have q6 := j6 d6; simp -implicitDefEqProofs (disch := omega) only [go_sem, h2, h6, s6, q4, q6, h8, h88, hTT, hu9, hu8]
           repeat' apply And.intro
           all_goals first | assumption | (intro h; refine Jaq ?_ (by first | rfl | simp -implicitDefEqProofs (disch := omega) only [go_sem]); first | exact j0 h | exact j1 h | exact j2 h | exact j3 h | exact j4 h | exact j5 h | exact j6 h | exact j7 h | exact j8 h | exact j9 h) | (intro h; simp -implicitDefEqProofs (disch := omega) only [go_sem]; done) | (intros; trivial)
         . intro h; exact absurd rfl h
         . intro _; rintro D hD hd E σ ⟨h2, h6, s6, j0, j1, j2, j3, j4, j5, j6, j7, j8, j9⟩
           have d8 : D 8 = true := hd ⟨8, .data⟩ (by simp) rfl
           have q8 := j8 d8; simp -implicitDefEqProofs (disch := omega) only [go_sem, h2, h6, s6, q8, h8, h88, hTT, hu9, hu8]
           repeat' apply And.intro
           all_goals first | assumption | (intro h; refine Jaq ?_ (by first | rfl | simp -implicitDefEqProofs (disch := omega) only [go_sem]); first | exact j0 h | exact j1 h | exact j2 h | exact j3 h | exact j4 h | exact j5 h | exact j6 h | exact j7 h | exact j8 h | exact j9 h) | (intro h; simp -implicitDefEqProofs (disch := omega) only [go_sem]; done) | (intros; trivial)
       . intro o ho
         obtain rfl := Option.some.inj ho
         refine ⟨rfl, ?_⟩
         rintro D hD hd E σ ⟨h2, h6, s6, j0, j1, j2, j3, j4, j5, j6, j7, j8, j9⟩
         have d0 : D 0 = true := hd ⟨0, .data⟩ (by simp) rfl
         have q0 := j0 d0
         have d7 : D 7 = true := hd ⟨7, .data⟩ (by simp) rfl
         have q7 := j7 d7
         refine (?_ : semD (spB prog 19 88 [17]) (some 87) (.binOp .eql 125 (.tmp 79) (.tmp 86) 125) 4 _ _ _) _ _ _
         refine Jpl (t := 125) (us := u.1.map (Value.int .i64) ++ [Value.string u.2]) (vs := s.map (Value.int .i64) ++ [Value.string d]) 3 3 (decide (u = (s, d))) ?_ ?_ (JtF u.1 u.2 hu8 hur hud) (JtF s d h8 hsr hsd) (by kernel_rfl) (by decide) (JtB u.1 u.2 hu8) (JtB s d h8) (by kernel_rfl) (by kernel_rfl) ?_ ?_
         . simp -implicitDefEqProofs (disch := omega) only [go_sem, q0]
           simp
         . simp -implicitDefEqProofs (disch := omega) only [go_sem, q7]
           simp
         . rw [decide_eq_true_iff]; exact JnJ u.1 u.2 s d
         simp -implicitDefEqProofs (disch := omega) only [go_sem, h2, h6, s6, h8, h88, hTT, hu9, hu8]
         repeat' apply And.intro
         all_goals first | assumption | (intro h; refine Jaq ?_ (by first | rfl | simp -implicitDefEqProofs (disch := omega) only [go_sem]); first | exact j0 h | exact j1 h | exact j2 h | exact j3 h | exact j4 h | exact j5 h | exact j6 h | exact j7 h | exact j8 h | exact j9 h) | (intro h; simp -implicitDefEqProofs (disch := omega) only [go_sem]; done)
       . rintro D E σ hD ⟨h2, h6, s6, j0, j1, j2, j3, j4, j5, j6, j7, j8, j9⟩
         have q0 := j0 (hD 0 (by decide))
         have q1 := j1 (hD 1 (by decide))
         have q2 := j2 (hD 2 (by decide))
         have q3 := j3 (hD 3 (by decide))
         have q4 := j4 (hD 4 (by decide))
         have q5 := j5 (hD 5 (by decide))
         have q6 := j6 (hD 6 (by decide))
         have q7 := j7 (hD 7 (by decide))
         have q8 := j8 (hD 8 (by decide))
         have q9 := j9 (hD 9 (by decide))
         simp -implicitDefEqProofs (disch := omega) only [go_sem, q9, results19]
theorem Jo9 {l : List Ch} (f : ∀ c ∈ l, c.ok) : (chsS l).size <= 140 * l.length := by
 rw [<- Jao, Jk2]; exact Jda l f
abbrev SLs (l : List ByteArray) : AV := .sl 1 (l.map Str)
section
variable (p : Nat -> Bool) (l : List ByteArray)
@[go_sem] theorem JnS : AV.namesL p (l.map Str) = false := Jaj p l Str λ _ => rfl
@[go_sem] theorem Jpt : AV.flatL (l.map Str) = true := JaR l Str λ _ => rfl
@[go_sem] theorem JoA : Jbq 1 (l.map Str) = true := Jaw 1 l Str λ _ => ⟨rfl, rfl⟩
@[go_sem] theorem Jm8 (x : ByteArray) : l.map Str ++ [.v (.string x)] = (l ++ [x]).map Str := by simp
end
theorem Jfk {l : List Ch} (g : ∀ c ∈ l, c.ok) (j : l.length <= 60) : (Jcw l).size <= 10000 := by
 have i := Jo9 g
 have f := JdO [(l.length : Int)]
 simp only [L18] at f
 unfold Jcw; rw [L0u]; omega
@[go_sem] theorem Jwu (p : Nat -> Bool) (l : List (List Tot)) : AV.namesL p (l.map RPL) = false := Jaj p l RPL λ _ => rfl
@[go_sem] theorem Jw7 (l : List (List Tot)) : Jbq 1 (l.map RPL) = true := Jaw 1 l RPL λ _ => ⟨rfl, rfl⟩
@[go_sem] theorem Jv0 (l : List (List Tot)) (r : List Tot) : l.map RPL ++ [.sl 2 (r.map RP)] = (l ++ [r]).map RPL := by simp
theorem Jht (a b : ByteArray) : (a.toList == b.toList) = decide (a = b) := by
 rw [ByteArray.toList_eq, ByteArray.toList_eq, L1c, decide_eq_true_iff, beq_iff_eq]
 exact ⟨Jl4, λ h => by rw [h]⟩
instance : DecidableEq Ch := λ a b => by
 refine decidable_of_iff (a.h = b.h /\ a.p = b.p /\ a.q = b.q /\ a.a = b.a /\ a.t = b.t) ?_
 constructor
 . rintro ⟨h1, h2, h3, h4, h5⟩; cases a; cases b; simp_all
 . rintro rfl; exact ⟨rfl, rfl, rfl, rfl, rfl⟩
theorem JdZ (a b : List Int) (z : a.length <= 9223372036854775807) (o : b.length <= 9223372036854775807) : Ev prog 15 [SL a, SL b] (B (decide (a = b))) := by
 refine EV func15 ?_
 simp -implicitDefEqProofs (disch := omega) only [go_sem, ntmps15]
 refine Jab (λ o => ?_) (λ o => ?_)
 . simp -implicitDefEqProofs (disch := omega) only [go_sem, results15]
   have : ¬ a = b := λ e => by subst e; omega
   simp [this]
 . simp -implicitDefEqProofs (disch := omega) only [go_sem]
   refine Jag (λ n E y => ∃ v : Nat, v + n = a.length /\ E 0 = SL a /\ E 1 = SL b /\ E 5 = I v /\ ∀ i, i < v -> gd a i = gd b i) a.length ⟨0, by omega, ?_⟩ ?_
   . simp -implicitDefEqProofs (disch := omega) only [go_sem]
     simp
   . rintro n E y ⟨v, A, g, j, k, f⟩
     simp -implicitDefEqProofs (disch := omega) only [go_sem, g, j, k]
     refine Jab (λ u => ?_) (λ u => ?_)
     . simp -implicitDefEqProofs (disch := omega) only [go_sem, g, j, k]
       refine Jab (λ m => ?_) (λ m => ?_)
       . simp -implicitDefEqProofs (disch := omega) only [go_sem, results15]
         have : ¬ a = b := λ e => by subst e; simp at m
         simp [this]
       . simp -implicitDefEqProofs (disch := omega) only [go_sem, g, j, k]
         refine Jad (n - 1) (by omega) ⟨v + 1, by omega, ?_⟩
         simp -implicitDefEqProofs (disch := omega) only [go_sem, g, j, k]
         refine ⟨by simp, λ i w => ?_⟩
         by_cases e : i = v
         . subst e
           simpa using m
         . exact f i (by omega)
     . simp -implicitDefEqProofs (disch := omega) only [go_sem, results15]
       have : a = b := JeU (by omega) λ i w => f i (by omega)
       simp [this]
theorem Jkp (a b : List Deb) (z : a.length <= 9223372036854775807) (o : b.length <= 9223372036854775807) : Ev prog 20 [.sl 3 (a.map DP), .sl 3 (b.map DP)] (B (decide (a = b))) := by
 refine EV func20 ?_
 simp -implicitDefEqProofs (disch := omega) only [go_sem, ntmps20]
 refine Jab (λ o => ?_) (λ o => ?_)
 . simp -implicitDefEqProofs (disch := omega) only [go_sem, results20]
   have : ¬ a = b := λ e => by subst e; omega
   simp [this]
 . simp -implicitDefEqProofs (disch := omega) only [go_sem]
   refine Jag (λ n E y => ∃ v : Nat, v + n = a.length /\ E 0 = .sl 3 (a.map DP) /\ E 1 = .sl 3 (b.map DP) /\ E 5 = I v /\ ∀ i, i < v -> gd a i = gd b i) a.length ⟨0, by omega, ?_⟩ ?_
   . simp -implicitDefEqProofs (disch := omega) only [go_sem]
     simp
   . rintro n E y ⟨v, A, j, k, m, f⟩
     simp -implicitDefEqProofs (disch := omega) only [go_sem, j, k, m]
     refine Jab (λ u => ?_) (λ u => ?_)
     . simp -implicitDefEqProofs (disch := omega) only [go_sem, j, k, m]
       refine Jab (λ g => ?_) (λ g => ?_)
       . simp -implicitDefEqProofs (disch := omega) only [go_sem, results20]
         have : ¬ a = b := λ e => by subst e; simp at g
         simp [this]
       . simp -implicitDefEqProofs (disch := omega) only [go_sem, j, k, m]
         refine Jad (n - 1) (by omega) ⟨v + 1, by omega, ?_⟩
         simp -implicitDefEqProofs (disch := omega) only [go_sem, j, k, m]
         refine ⟨by simp, λ i w => ?_⟩
         by_cases e : i = v
         . subst e
           simp at g; exact Prod.ext g.1 (Prod.ext g.2.1 g.2.2)
         . exact f i (by omega)
     . simp -implicitDefEqProofs (disch := omega) only [go_sem, results20]
       have : a = b := JeU (by omega) λ i w => f i (by omega)
       simp [this]
structure Fiv where
 a : Int
 b : Int
 c : Int
 d : Int
 e : Int
deriving Inhabited
def Fiv.r (x : Fiv) : Prop := R64 x.a /\ R64 x.b /\ R64 x.c /\ R64 x.d /\ R64 x.e
section
variable (p : Nat -> Bool) (l : List Fiv)
end
def Jdw (b : Int) (v : Nat) : List Int := List.replicate v b ++ List.replicate (32 - v) 0
theorem JjI (b : Int) (v : Nat) (f : v < 32) : (Jdw b v).set v b = Jdw b (v + 1) := by
 unfold Jdw
 rw [L2r _ _ (by simp), L22, L1y, show 32 - v = (32 - (v + 1)) + 1 from by omega, L2s, List.set_cons_zero, L2f]
 simp
theorem Jf3 (b : Int) (v : Nat) (f : v <= 32) : (Jdw b v).length = 32 := by unfold Jdw; simp; omega
@[go_sem] theorem Jx9 (n : Nat) : List.replicate n (Y 0) = (List.replicate n 0).map Y := by simp
def exK : ByteArray := strOfNums (List.replicate 32 0)
def exC : List Ch := [⟨5, 1, 2, 300, ⟨#[97]⟩⟩, ⟨9, 2, 0, 50, ⟨#[98]⟩⟩, ⟨5, 1, 0, 7, ⟨#[]⟩⟩]
theorem Jnu : Ev prog 16 [] (LP exK exC) := by
 refine EW [1] func16 ?_
 simp -implicitDefEqProofs (disch := omega) only [go_sem, ntmps16]
 refine Jel Plain.mono ?_
 simp -implicitDefEqProofs (disch := omega) only [go_sem]
 refine JcJ (List.replicate 32 0) (by simp -implicitDefEqProofs (disch := omega) only [go_sem]; rfl) (by intro b; simp -implicitDefEqProofs (disch := omega) only [go_sem]; intro e; cases e) (e := 5) rfl rfl rfl ?_
 simp -implicitDefEqProofs (disch := omega) only [go_sem, results16]
 rfl
theorem Jme : Jb1 exC = true := by decide +kernel
theorem Jnt : Jj5 exK exC = true := by
 have : exK.size = 32 := by unfold exK; rw [strOfNums_size]; rfl
 simp only [Jj5, this, decide_true, L0h, Jme]
theorem Jgp : ∀ c ∈ exC, c.good := (JhH Jme).2
theorem Jm1 {j : Nat} (f : j < 8) : ∀ (p : List Tot) (h : Nat) (t : Tot), gd (Jfg h p t).1 j = gd t.1 j + (p.map λ u => gd u.1 j).sum
 | [], h, t => by simp [Jfg]
 | u :: p, h, t => by
  rw [Jfg, Jm1 f p]
  have : gd (JiK h u t).1 j = gd t.1 j + gd u.1 j := by
   unfold JiK; split
   . show gd (Jfw _ _) j = _; rw [JiE _ _ f]; omega
   . show gd (Jfw _ _) j = _; rw [JiE _ _ f]
  rw [this]; simp; omega
theorem Jnm {sl : Tot} {a : Acc} {m : List Ch} (i : JeO sl a = true) {j : Nat} (u : j < 8) (f : gd (JaD a.l) j ≠ gd (JaD m) j) : JeO sl { a with l := m } = false := by
 cases hb : JeO sl { a with l := m } with
 | false => rfl
 | true =>
  exfalso
  simp only [JeO, L00, decide_eq_true_eq] at i hb; have e := i.2.trans hb.2.symm
  have g := congrArg (λ t : Tot => gd t.1 j) e
  simp only [Jm1 u] at g
  apply f
  have k : gd (Jj4 a.s a.l).1 j = gd (JaD a.l) j := rfl
  have o : gd (Jj4 a.s m).1 j = gd (JaD m) j := rfl
  rw [k, o] at g
  omega
def L5 : List Ch := [⟨5, 1, 2, 300, ⟨#[97]⟩⟩, ⟨5, 1, 0, 7, ⟨#[]⟩⟩]
def L5b : List Ch := [⟨5, 1, 2, 301, ⟨#[97]⟩⟩, ⟨5, 1, 0, 7, ⟨#[]⟩⟩]
theorem JxI : ofF exC 5 = L5 := by rfl
theorem JxJ : ofF exC 6 = [] := by rfl
theorem Jtz (h : Nat) (g : h < 64) (f : sibN h < 64) : gd (Jgk exK exC h) 0 = Jg1 exK exC (sibN h) := by
 have : gd (Jgk exK exC h) 0 = gd (rowT exK exC 0) (sibN (h / 2 ^ 0)) := rfl
 rw [this, Nat.pow_zero, Nat.div_one]
 unfold rowT gd; simp [f]
theorem Jvo : Ev prog 5 [] (B true) := by
 have m : exC.length <= 9223372036854775807 := by decide
 have M := JkI exC m Jme; have U := Jkq exK exC m Jnt
 have W := Jgn exK exC 5 m Jnt (by decide)
 have X := Jgn exK exC 6 m Jnt (by decide)
 have V := Jgn exK exC 4 m Jnt (by decide)
 have Y := Jgn exK exC 8 m Jnt (by decide)
 have N := Jns exC Jme; have O := Jdt exK exC m
 have g : exC.length <= 60 := by decide
 have G := Jkj exK Jgp g 5 (by decide)
 have R := Jkj exK Jgp g 6 (by decide)
 have o : (JcO exK exC).1 = JaD exC := Jkr exK Jgp g
 have E : (JcO exK exC).2.size = 32 := (Jgx exK Jgp g (k := 6) (i := 0) (by omega) (by decide)).2
 have f : JaD exC = [57, -307, 250, 0, 0, 0, 0, 0] := by decide +kernel
 have y : debF exC = [(1, 2, 300), (2, 0, 50), (1, 0, 7)] := by decide +kernel
 have A : (ownA exK exC 5).l = L5 := JxI
 have C : (ownA exK exC 6).l = [] := JxJ
 have Z : (gd (ownA exK exC 4).p 0).1 = [7, -307, 300, 0, 0, 0, 0, 0] := by
  show (gd (Jgk exK exC 4) 0).1 = _
  rw [Jtz 4 (by decide) (by decide)]
  show JaD (ofF exC ((sibN 4 : Nat) : Int)) = _
  decide +kernel
 have p8 : (gd (ownA exK exC 8).p 0).1 = [50, 0, -50, 0, 0, 0, 0, 0] := by
  show (gd (Jgk exK exC 8) 0).1 = _
  rw [Jtz 8 (by decide) (by decide)]
  show JaD (ofF exC ((sibN 8 : Nat) : Int)) = _
  decide +kernel
 have q4 : (ownA exK exC 4).p.length = 6 := by simp [ownA, Jgk]
 have q8 : (ownA exK exC 8).p.length = 6 := by simp [ownA, Jgk]
 have w5 : (ownA exK exC 5).p.length = 6 := by simp [ownA, Jgk]
 have w6 : (ownA exK exC 6).p.length = 6 := by simp [ownA, Jgk]
 have T : JeO (JcO exK exC) { ownA exK exC 5 with l := L5b } = false := Jnm G (j := 1) (by decide) (by rw [A]; decide +kernel)
 have u : ∀ n ∈ (JcO exK exC).1, R64 n := by rw [o, f]; intro n L; simp at L; unfold R64; rcases L with rfl | rfl | rfl | rfl <;> omega
 have H := JeP (JcO exK exC) (ownA exK exC 5) (by rw [A]; decide) (by omega) (by rw [o, f]; decide) u (by omega)
 have I := JeP (JcO exK exC) (ownA exK exC 6) (by rw [C]; decide) (by omega) (by rw [o, f]; decide) u (by omega)
 have J := JeP (JcO exK exC) { ownA exK exC 5 with l := L5b } (by decide) (by show (ownA exK exC 5).p.length <= _; omega) (by rw [o, f]; decide) u (by omega)
 rw [G] at H; rw [R] at I; rw [T] at J
 have K : (ownA exK exC 5).h = 5 := rfl
 rw [show (decide (exK.size = 32) && Jb1 exC) = true from Jnt] at O
 rw [f] at M o; rw [y] at N; generalize ownA exK exC 5 = P at *; generalize ownA exK exC 6 = Q at *; generalize ownA exK exC 4 = a4 at *; generalize ownA exK exC 8 = a8 at *; generalize JcO exK exC = S at *
 have F : Ev prog 21 [.agg [Str ByteArray.empty, .v (.slice none 0 0)]] (B false) := by
  have := Jdt ByteArray.empty [] (by decide)
  rw [show (decide (ByteArray.empty.size = 32) && Jb1 []) = false from rfl] at this
  exact this.asIf ⟨JrI ⟨JoM _, JrJ 5, trivial⟩, trivial⟩
 have D := Jnu; generalize exC = ec at *; generalize exK = ek at *; obtain ⟨x5, l5, s5, r5⟩ := P; obtain ⟨x6, l6, s6, r6⟩ := Q
 simp only at A C K
 subst A C K; obtain ⟨S1, S2⟩ := S
 simp only at o E
 subst o
 refine EV func5 ?_
 simp -implicitDefEqProofs (disch := omega) only [go_sem, ntmps5]
 refine Jaa D ?_
 simp -implicitDefEqProofs (disch := omega) only [go_sem]
 refine Jaa M ?_
 simp -implicitDefEqProofs (disch := omega) only [go_sem]
 refine Jaa U ?_
 simp -implicitDefEqProofs (disch := omega) only [go_sem]
 refine Jaa W ?_
 simp -implicitDefEqProofs (disch := omega) only [go_sem]
 refine Jaa X ?_
 simp -implicitDefEqProofs (disch := omega) only [go_sem]
 refine Jaa V ?_
 simp -implicitDefEqProofs (disch := omega) only [go_sem]
 refine Jaa Y ?_
 simp -implicitDefEqProofs (disch := omega) only [go_sem]
 refine Jaa N ?_
 have z : L5.length = 2 := rfl
 simp -implicitDefEqProofs (disch := omega) only [go_sem]
 refine Jas (by omega) ?_
 simp -implicitDefEqProofs (disch := omega) only [go_sem]
 refine Jas (by omega) ?_
 simp -implicitDefEqProofs (disch := omega) only [go_sem]
 refine Jas (by omega) ?_
 simp -implicitDefEqProofs (disch := omega) only [go_sem]
 have w : L5.map CH = [CH ⟨5, 1, 2, 300, ⟨#[97]⟩⟩, CH ⟨5, 1, 0, 7, ⟨#[]⟩⟩] := rfl
 simp -implicitDefEqProofs (disch := omega) only [go_sem, z, w, and_self]
 refine Jaa (JdZ [57, -307, 250, 0, 0, 0, 0, 0] [57, -307, 250, 0, 0, 0, 0, 0] (by decide) (by decide)) ?_
 simp -implicitDefEqProofs (disch := omega) only [go_sem]
 refine Jaa (JdZ [57, -307, 250, 0, 0, 0, 0, 0] [57, -307, 250, 0, 0, 0, 0, 0] (by decide) (by decide)) ?_
 simp -implicitDefEqProofs (disch := omega) only [go_sem, Z]
 refine Jaa (JdZ [7, -307, 300, 0, 0, 0, 0, 0] [7, -307, 300, 0, 0, 0, 0, 0] (by decide) (by decide)) ?_
 simp -implicitDefEqProofs (disch := omega) only [go_sem, p8]
 refine Jaa (JdZ [50, 0, -50, 0, 0, 0, 0, 0] [50, 0, -50, 0, 0, 0, 0, 0] (by decide) (by decide)) ?_
 simp -implicitDefEqProofs (disch := omega) only [go_sem]
 refine Jbn rfl ?_
 simp -implicitDefEqProofs (disch := omega) only [go_sem, z, w]
 refine Jaa H ?_
 simp -implicitDefEqProofs (disch := omega) only [go_sem]
 refine Jaa I ?_
 simp -implicitDefEqProofs (disch := omega) only [go_sem]
 refine Jaa J ?_
 simp -implicitDefEqProofs (disch := omega) only [go_sem]
 refine Jbn (by omega) ?_
 simp -implicitDefEqProofs (disch := omega) only [go_sem]
 refine Jaa (Jkp [(1, 2, 300), (2, 0, 50), (1, 0, 7)] [(1, 2, 300), (2, 0, 50), (1, 0, 7)] (by decide) (by decide)) ?_
 simp -implicitDefEqProofs (disch := omega) only [go_sem]
 refine Jaa O ?_
 simp -implicitDefEqProofs (disch := omega) only [go_sem]
 refine Jaa F ?_
 simp -implicitDefEqProofs (disch := omega) only [go_sem, results5]
def chg1 (h : Int) (t : ByteArray) (b : Bl) : List Ch := if b.p = b.q then [] else [⟨h, b.p, b.q, b.a, t⟩]
def chgF (h : Int) (t : ByteArray) (l : List Bl) : List Ch := l.flatMap (chg1 h t)
theorem Jo8 (h : Int) (t : ByteArray) (l : List Bl) (b : Bl) : chgF h t (l ++ [b]) = chgF h t l ++ chg1 h t b := by simp [chgF]
def bch (b : Bl) : Ch := ⟨0, b.p, b.q, b.a, .empty⟩
theorem Jq7 (s : List Int) (b : Bl) (f : b.p.toNat < s.length) (g : b.p = b.q) : Jdn s (bch b) = s := by
 refine JeU (by rw [Jbw]) λ j i => ?_
 rw [Jbw] at i; unfold Jdn payS bch
 simp only
 rw [<- g, Jej _ _ _ _ (by rw [L1S]; exact f), Jej _ _ _ _ f, Jej _ _ _ _ f]
 by_cases e : j = b.p.toNat
 . rw [if_pos e, if_pos rfl, e]; omega
 . rw [if_neg e, if_neg e]
theorem Jfc (h : Int) (t : ByteArray) : ∀ (l : List Bl) (s : List Int), (∀ b ∈ l, b.p.toNat < s.length) -> (chgF h t l).foldl Jdn s = (l.map bch).foldl Jdn s
 | [], s, _ => rfl
 | b :: l, s, f => by
  rw [chgF, L1s, List.foldl_append, L0j, L17, <- Jfc h t l _ λ c g => by rw [Jbw]; exact f c (.tail _ g)]
  unfold chg1
  split
  . rename_i i
    rw [Jq7 s b (f b (.head _)) i]; rfl
  . rfl
theorem Js2 (h : Int) (t : ByteArray) (l : List Bl) (g : ∀ b ∈ l, 0 <= b.p /\ b.p <= 7) : JaD (chgF h t l) = JaD (l.map bch) :=
 Jfc h t l _ λ b f => by have := g b f; simp only [L22]; omega
theorem Jc8 (h : Int) (t : ByteArray) (l : List Bl) : (chgF h t l).length <= l.length := by
 induction l with
 | nil => exact L08 _
 | cons b l f =>
  simp only [chgF, L1s, L0a, L0c] at *; unfold chg1 at *
  split <;> simp only [L0w, L0c] <;> omega
def Jcf (b : Bl) : Bool := decide (b.p = b.q) || inF b.a 0 1000000000
theorem JxB {h : Int} {t : ByteArray} {l : List Bl} (A : l.length <= 60) (m : 0 <= h /\ h <= 63) (y : t.size <= 100) (j : ∀ b ∈ l, (0 <= b.p /\ b.p <= 7) /\ (0 <= b.q /\ b.q <= 7)) (w : l.all Jcf = true) : Jb1 (chgF h t l) = true := by
 have z := Jc8 h t l; simp only [Jb1, L00, decide_eq_true_eq]
 refine ⟨by omega, λ i u => ?_⟩
 have k := Jan _ i u; generalize gd (chgF h t l) i = c at *
 obtain ⟨b, g, e⟩ := L2h.1 k
 unfold chg1 at e
 split at e
 . cases e
 rename_i f; have q := j b g; have o := L0d.1 w b g; simp only [Jcf, L0F, decide_eq_true_eq, f, false_or] at o; rw [L0r.1 e]; simp only [chOK, L00, decide_eq_true_eq]
 exact ⟨⟨⟨⟨⟨decide_eq_true q.1, decide_eq_true q.2⟩, f⟩, decide_eq_true m⟩, o⟩, y⟩
theorem Jpw {d t A M : Int} (f : 0 <= d /\ d <= 100) (j : 0 <= M) (m : t <= M) : ∀ (l : List Rd) (w : Int × Int), (∀ r ∈ l, 0 <= r.l /\ r.a <= A) -> w.1 <= A + M -> (l.foldl (Jfa d t) w).1 <= A + M
 | [], w, _, i => i
 | r :: l, w, g, i => by
  rw [L17]
  refine Jpw f j m l _ (λ q k => g q (L1q _ k)) ?_
  have o := g r List.mem_cons_self; unfold Jfa
  split
  . have := JmS f (n := r.l - t) (by omega)
    simp only; omega
  . split
    . have := JmS f (n := 0) (by omega)
      simp only; omega
    . have := JqQ f (n := t - r.l) (by omega)
      simp only; omega
def RdLe (c : Ck) (A : Int) : Prop := ∀ r ∈ c.r, 0 <= r.l /\ r.a <= A
theorem JA8 {c : Ck} {t A M : Int} {w : Int × Int} (j : RdLe c A) (u : 0 <= A) (g : 0 <= M) (k : t <= M) (h : atF c t = some w) : w.1 <= A + M := by
 obtain ⟨⟨i, m, o⟩, rfl⟩ := Jl2.1 h
 have f := (JcT.1 i).1
 exact Jpw ⟨f.1, f.2.1⟩ g k c.r _ j (by simp only; omega)
theorem Ji9 {c : Ck} {n : Cn} {s : Sn} {A M : Int} (j : RdLe c A) (i : 0 <= A) (f : 0 <= M) (k : n.e <= M) (h : Jdy c n = some s) : s.e.1 <= A + M := by
 unfold Jdy at h
 split at h
 . rename_i w v m g
   split at h
   . cases h; exact JA8 j i f k g
   . cases h
 . cases h
theorem JrA {a b : Ck} {l : Lg} {s : Sn} {A M : Int} (w : RdLe a A) (z : RdLe b A) (i : 0 <= A) (f : 0 <= M) (o : l.g.e <= M) (u : l.k.e <= M) (h : JeI a b l = some s) : s.e.1 <= A + M := by
 unfold JeI at h
 split at h
 . rename_i x y j m; have B := Ji9 w i f o j; have C := Ji9 z i f u m
   split at h
   . unfold JnQ at h
     split at h
     . cases h
       unfold JcL
       simp only
       omega
     . cases h
   . cases h
 . cases h
theorem Jit {s : Sn} {B : Int} (f : s.ok) (h : s.e.1 <= B) (g : 0 <= B) : (Jdu s).2 - (Jdu s).1 <= B := by
 unfold Sn.ok at f; unfold Jdu
 simp only
 omega
theorem Juf (m : List ByteArray) {a b : Ck} {l : Lg} {A M : Int} (w : RdLe a A) (y : RdLe b A) (j : 0 <= A) (i : 0 <= M) (o : l.g.e <= M) (u : l.k.e <= M) : (Jgh m a b l).1.2 - (Jgh m a b l).1.1 <= A + M := by
 unfold Jgh
 split
 . rename_i s f
   exact Jit (Jl0 f) (JrA w y j i o u f) (by omega)
 . split
   . split
     . rename_i s f
       exact Jit (JfS f) (Ji9 w j i o f) (by omega)
     . simp only; omega
   . split
     . split
       . rename_i s f
         exact Jit (JfS f) (Ji9 y j i u f) (by omega)
       . simp only; omega
     . simp only; omega
theorem JyG (d start : Int) (rates : List Int) (t : Int) (l : List Rd) (q : Int × Int × Int) (ht : 0 <= t) (hl : ∀ r ∈ l, r.a <= 3000) (h3 : t <= 3000) : ∀ r ∈ putR d start rates t l q, r.a <= 3000 := by
 unfold putR
 split
 . intro r hr
   rcases L0t.1 hr with hr | hr
   . exact hl r hr
   . rw [L0r.1 hr]
     have := Jai (c := q.2.1) (n := 51) (by omega)
     simp only [JfM]; omega
 . exact hl
theorem JtS (d start : Int) (rates : List Int) (at_ : List (Int × Int × Int)) (t : Int) (l : List Rd) (ht : 0 <= t) (hl : ∀ r ∈ l, r.a <= 3000) (h3 : t <= 3000) : ∀ i, ∀ r ∈ rowR d start rates at_ t l i, r.a <= 3000
 | 0 => hl
 | i + 1 => JyG d start rates t _ _ ht (JtS d start rates at_ t l ht hl h3 i) h3
theorem JmC (d start : Int) (rates : List Int) (at_ : List (Int × Int × Int)) : ∀ T : Nat, T <= 3000 -> ∀ r ∈ Jdf d start rates at_ T, r.a <= 3000
 | 0, _ => λ r hr => by cases hr
 | t + 1, h => JtS d start rates at_ t _ (by omega) (JmC d start rates at_ t (by omega)) (by omega) _
theorem Jtw (y : Cr) : RdLe y.clk 3000 := λ r hr => by
 have h1 := (JcT.1 (Jl9 y.d y.s y.r y.at_).2).2; have h2 := Jip h1 r hr
 exact ⟨by omega, JmC _ _ _ _ 3000 (L08 _) r hr⟩
theorem Jxf {x : Tf} (h : JbF x = true) (z : Int) {a b : Int} (g : 0 <= a) (f : a <= b) (m : b - a <= 50000) : 0 <= amtF x z a b /\ amtF x z a b <= 1000000000 := by
 have i := Jje x z (a := 0) (b := a) (c := b) g f
 have j := Jdp h z a b f; have k := Jdp h z 0 a g; unfold amtF
 omega
theorem Jsp (x : Nm) {c : Nat} (f : c < 8) : gd (JaE x).cks c = (crsF x c).clk := by
 show gd ((List.range 8).map λ c => (crsF x c).clk) c = _
 unfold gd; simp [f]
theorem JmD (x : Nm) {b : Bl} (C : b ∈ Jbj (JaE x)) : 0 <= b.a /\ b.a <= 1000000000 := by
 obtain ⟨i, u, rfl⟩ := L04.1 C
 have u := L12.1 u; have z := Jbm x; have O := JbS.1 (Jji z u).1
 have w : i < (Jau x.hops).length - 1 := by
  have : i < (Jhz x (Jau x.hops)).length := u
  rwa [JdK] at this
 have D : gd (JaE x).legs i = legM x (Jau x.hops) i := JiI x (Jau x.hops) w
 have I := JoR (evF (JaE x).key (JaE x).part) (gd (JaE x).cks (gd (JaE x).legs i).f.toNat) (gd (JaE x).cks (gd (JaE x).legs i).t.toNat) (gd (JaE x).legs i)
 have m : ∀ y : Cr, ∀ a b : Int, 0 <= a -> 0 <= b -> a + b <= 3000 -> (y.cnt a (a + b)).e <= 8000 := λ y a b K L M => by
  have N := Jai (c := y.d) (n := 101) (by omega)
  have := (Jdm (d := Jaf y.d 101) (by omega) y.s y.r (t := a + b) (by omega)).2
  simp only [Cr.cnt, Cr.show]; omega
 have A := Jai (c := (legY x i).1) (n := 2000) (by omega)
 have B := Jai (c := (legY x i).2.1) (n := 900) (by omega)
 have J := Jai (c := (legY x i).2.2) (n := 400) (by omega)
 have G : (gd (JaE x).legs i).g.e <= 9000 := by
  rw [D]
  have := m (crsF x (gd (Jau x.hops) i).1.toNat) _ _ A.1 B.1 (by omega)
  simp only [legM]; omega
 have H : (gd (JaE x).legs i).k.e <= 9000 := by
  rw [D]
  have := m (crsF x (gd (Jau x.hops) (i + 1)).1.toNat) _ _ A.1 B.1 (by omega)
  simp only [legM]
  split
  . simp only; omega
  . omega
 have E := Jtw (crsF x (gd (JaE x).legs i).f.toNat); have F := Jtw (crsF x (gd (JaE x).legs i).t.toNat)
 rw [<- Jsp x (by omega)] at E F
 have C := Juf (evF (JaE x).key (JaE x).part) E F (by omega) (by omega) G H
 have j := L0d.1 (JaO.1 z).2.2.2.1 _ (Jan (JaE x).tfs (gd (JaE x).legs i).t.toNat (by have := (JaO.1 z).2.1; omega))
 have o := JfT.1 I.1
 have := Jxf j (gd (JaE x).offs (gd (JaE x).legs i).t.toNat) o.1 o.2.1 (by omega)
 exact this
theorem Jlr (x : Nm) : (Jbj (JaE x)).all Jcf = true := L0d.2 λ b f => by
 simp only [Jcf, L0F]
 exact .inr (decide_eq_true (JmD x f))
theorem JyC {t : Tp} (h : Jef t = true) {i : Nat} (hi : i < t.legs.length) : 0 <= payF t i /\ payF t i <= 7 := by
 have f := (JaO.1 h).2.1.2.1; unfold payF
 split
 . exact (Jjh h (by omega)).1
 split <;> exact (Jjh h (by omega)).1
theorem JoQ {t : Tp} (h : Jef t = true) {b : Bl} (g : b ∈ Jbj t) : (0 <= b.p /\ b.p <= 7) /\ (0 <= b.q /\ b.q <= 7) := by
 obtain ⟨i, f, rfl⟩ := L04.1 g
 have f := L12.1 f
 have := (JbS.1 (Jji h f).1).1.2.1
 exact ⟨JyC h f, this⟩
theorem JrC (L : List Bl) {v : Nat} (f : v < L.length) (h : (L.take v).all Jcf = true) : (L.take (v + 1)).all Jcf = Jcf (gd L v) := by
 rw [L0D, JaA L v f]
 simp [h]
theorem Jt2 {L : List Bl} {v : Nat} (f : v < L.length) (h : Jcf (gd L v) = false) : L.all Jcf = false := by
 rw [List.all_eq_false]
 exact ⟨_, Jan L v f, by rw [h]; decide⟩
theorem Jl8 (h : Int) (f : ByteArray) (L : List Bl) {v : Nat} (g : v < L.length) : chgF h f (L.take (v + 1)) = chgF h f (L.take v) ++ chg1 h f (gd L v) := by
 rw [L0D, JaA L v g]
 exact Jo8 ..
set_option maxHeartbeats 2000000 in
theorem Jnl (t : Tp) (W : t.ok) (h : Int) (m : ByteArray) (M : Jef t = true) (U : inF h 0 63 = true) (h3 : m.size <= 100) : Ev prog 9 [TPP t, I h, Str m] (if (Jbj t).all Jcf = true then .tup [CL (chgF h m (Jbj t)), I 0] else .tup [CL [], I 400]) := by
 have c1 := Jjw t W M
 have O := λ b O => JoQ M (b := b) O
 have hl : (Jbj t).length <= 11 := by have := (JaO.1 M).2.1; rw [Jb7]; omega
 generalize Jbj t = L at *; have S := Jb0 h 0 63; rw [U] at S
 suffices core : ∀ R : AV, (L.all Jcf = true -> R = .tup [.new 84 5 ((chgF h m L).map CH), I 0]) -> (L.all Jcf = false -> R = .tup [.new 84 5 [], I 400]) -> Ev prog 9 [TPP t, I h, Str m] R by
  by_cases ho : L.all Jcf = true
  . rw [if_pos ho]; exact Jed (core _ (λ _ => rfl) (λ K => absurd ho (by rw [K]; decide))) _
  . rw [if_neg ho]; exact Jed (core _ (λ K => absurd K ho) (λ _ => rfl)) _
 intro R hA hB
 clear W M
 obtain ⟨V, X, aa, ac, Y, ab, ⟨⟨pc, pn, pr, ps⟩, pl⟩, T, ad⟩ := t
 refine EV func9 ?_
 simp -implicitDefEqProofs (disch := omega) only [go_sem, ntmps9]
 refine Jaa c1 ?_
 simp -implicitDefEqProofs (disch := omega) only [go_sem]
 refine Jaa S ?_
 simp -implicitDefEqProofs (disch := omega) only [go_sem]
 refine Jas (by omega) ?_
 simp -implicitDefEqProofs (disch := omega) only [go_sem]
 refine Jag (λ n E σ => ∃ v : Nat, v + n = L.length /\ (L.take v).all Jcf = true /\ E 1 = I h /\ E 2 = Str m /\ E 10 = .own 20971680 5 0 (chgF h m (L.take v)).length /\ E 31 = BLS L /\ E 32 = I L.length /\ E 33 = I v /\ σ 20971680 = some ⟨84, 5, (chgF h m (L.take v)).map CH⟩) L.length ⟨0, by omega, rfl, ?_⟩ ?_
 . simp -implicitDefEqProofs (disch := omega) only [go_sem, chgF]
   simp
 rintro n E σ ⟨v, hv, o, z, A, g, i, j, k, y⟩
 have Q : (chgF h m (L.take v)).length <= 11 := by
  have := Jc8 h m (L.take v)
  rw [L01] at this; omega
 simp -implicitDefEqProofs (disch := omega) only [go_sem, z, A, g, i, j, k, y]
 refine Jab (λ hc => ?_) (λ hc => ?_)
 rotate_left
 . have e : v = L.length := by omega
   subst e; rw [L05] at g y Q o; rw [hA o]; simp -implicitDefEqProofs (disch := omega) only [go_sem, z, A, g, i, j, k, y, L05, results9]
 have C : v < L.length := by omega
 have w := Jl8 h m L C; have B := JrC L C o
 have D := λ K => hB (Jt2 C K)
 obtain ⟨⟨Z, p2⟩, q1, q2⟩ := O _ (Jan L v C)
 have F := JgZ ⟨h, (gd L v).p, (gd L v).q, (gd L v).a, m⟩; generalize G : gd L v = b at *; obtain ⟨p, q, f, u, a⟩ := b; simp only [chg1, Jcf] at w B D Z p2 q1 q2 F; simp -implicitDefEqProofs (disch := omega) only [go_sem, z, A, g, i, j, k, y, G]
 refine Jab (λ J => ?_) (λ J => ?_)
 . simp -implicitDefEqProofs (disch := omega) only [go_sem, z, A, g, i, j, k, y, G]; subst J; rw [if_pos rfl, L0C] at w
   refine Jad (n - 1) (by omega) ⟨v + 1, by omega, by rw [B]; simp, ?_⟩
   rw [w]; simp -implicitDefEqProofs (disch := omega) only [go_sem, z, A, g, i, j, k, y, G]
   simp
 rw [if_neg J] at w
 have P : chOK ⟨h, p, q, a, m⟩ = inF a 0 1000000000 := by
  have N := of_decide_eq_true U; simp only [chOK, N, h3, inF, Z, p2, q1, q2, J, ne_eq, not_false_eq_true, decide_true, L0h, Bool.and_true, and_self]
 rw [P] at F; rw [decide_eq_false J, L1B] at B D
 have H : (chgF h m (L.take v)).map CH ++ [.agg [I h, I p, I q, I a, Str m]] = (chgF h m (L.take v) ++ [(⟨h, p, q, a, m⟩ : Ch)]).map CH := JoJ (chgF h m (L.take v)) ⟨h, p, q, a, m⟩
 generalize inF a 0 1000000000 = x at *; simp -implicitDefEqProofs (disch := omega) only [go_sem, z, A, g, i, j, k, y, G]
 refine Jaa F ?_
 cases x
 . rw [D rfl]; simp -implicitDefEqProofs (disch := omega) only [go_sem, z, A, g, i, j, k, y, G, results9]
 . simp -implicitDefEqProofs (disch := omega) only [go_sem, z, A, g, i, j, k, y, G, H, L05]
   refine Jad (n - 1) (by omega) ⟨v + 1, by omega, B, ?_⟩
   rw [w]; simp -implicitDefEqProofs (disch := omega) only [go_sem, z, A, g, i, j, k, y, G, H, L05]
   simp
end Go.Proofs.YtlecbpkidomjbaaGreatDoor.Au

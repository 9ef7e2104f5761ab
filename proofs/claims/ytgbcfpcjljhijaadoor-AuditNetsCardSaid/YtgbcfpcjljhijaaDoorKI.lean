/- The example; the frame -/
import Derived.Test.YtgbcfpcjljhijaaDoorKH
import Derived.Test.YtgbcfpcjljhijaaDoorRows
import Derived.Test.YtgbcfpcjljhijaaDoorCards
import Derived.Test.YtgbcfpcjljhijaaDoorTie
import Derived.ProofKit
import Derived.LaidMore
import Derived.OpenShut
import Derived.Stop.Joined
import Derived.Handed
import Derived.Lay
set_option linter.unusedVariables false
set_option linter.unusedSimpArgs false
set_option maxRecDepth 100000
namespace Go.Proofs.YtgbcfpcjljhijaaDoor
open Go.Vai Go Go.Proofs
open Nat (reduceEqDiff reduceMul reduceAdd reduceDiv reduceLeDiff)
open Int (reduceToNat reduceNe reduceEq reduceLT reduceLE)
def pickF (c n : Int) : Int := if c < 0 then (-(c + 1)).tmod n else c.tmod n
theorem pickF_in {c n : Int} (hn : 0 < n) : 0 ≤ pickF c n ∧ pickF c n < n := by
  unfold pickF
  split
  · exact ⟨Int.tmod_nonneg _ (by omega), Int.tmod_lt_of_pos _ hn⟩
  · exact ⟨Int.tmod_nonneg _ (by omega), Int.tmod_lt_of_pos _ hn⟩
theorem pickR_ev (c n : Int) (hc : R64 c) (hn : 0 < n) : Ev Tryd.prog 41 [I c, I n] (I (pickF c n)) := by
  obtain ⟨h1, h2⟩ := hc
  refine ev_of Tryd.func41 rfl (by kernel_rfl) mo (Nat.le_of_ble_eq_true rfl) ?_
  simp -implicitDefEqProofs (disch := omega) only [go_sem, Tryd.ntmps41]
  refine branch_mk (fun h => ?_) (fun h => ?_) <;> simp -implicitDefEqProofs (disch := omega) only [go_sem, Tryd.results41]
  · rw [show (0 - (c+1)) = -(c+1) from by omega]; simp [pickF, h]
  · simp [pickF, h]
instance : DecidableEq Ch := fun a b => by
  refine decidable_of_iff (a.h = b.h ∧ a.p = b.p ∧ a.q = b.q ∧ a.a = b.a ∧ a.t = b.t) ?_
  constructor
  · rintro ⟨h1, h2, h3, h4, h5⟩; cases a; cases b; simp_all
  · rintro rfl; exact ⟨rfl, rfl, rfl, rfl, rfl⟩
theorem intsR_ev (a b : List Int) (ha : a.length ≤ 9223372036854775807) (hb : b.length ≤ 9223372036854775807) : Ev Tryd.prog 24 [SL a, SL b] (B (decide (a = b))) := by
  refine ev_of Tryd.func24 rfl (by kernel_rfl) mo (Nat.le_of_ble_eq_true rfl) ?_
  simp -implicitDefEqProofs (disch := omega) only [go_sem, Tryd.ntmps24]
  refine branch_mk (fun hb => ?_) (fun hb => ?_)
  · simp -implicitDefEqProofs (disch := omega) only [go_sem, Tryd.results24]
    have : ¬ a = b := fun e => by subst e; omega
    simp [this]
  · simp -implicitDefEqProofs (disch := omega) only [go_sem]
    refine loopC_mk (fun n E σ => ∃ v : Nat, v + n = a.length ∧ E 0 = SL a ∧ E 1 = SL b ∧ E 5 = I v ∧ ∀ i, i < v → gd a i = gd b i) a.length ⟨0, by omega, ?_⟩ ?_
    · simp -implicitDefEqProofs (disch := omega) only [go_sem]
      simp
    · rintro n E σ ⟨v, hv, h0, h1, h5, hall⟩
      simp -implicitDefEqProofs (disch := omega) only [go_sem, h0, h1, h5]
      refine branch_mk (fun hc => ?_) (fun hc => ?_)
      · simp -implicitDefEqProofs (disch := omega) only [go_sem, h0, h1, h5]
        refine branch_mk (fun hd => ?_) (fun hd => ?_)
        · simp -implicitDefEqProofs (disch := omega) only [go_sem, Tryd.results24]
          have : ¬ a = b := fun e => by subst e; simp at hd
          simp [this]
        · simp -implicitDefEqProofs (disch := omega) only [go_sem, h0, h1, h5]
          refine againQ_mk (n - 1) (by omega) ⟨v + 1, by omega, ?_⟩
          simp -implicitDefEqProofs (disch := omega) only [go_sem, h0, h1, h5]
          refine ⟨by simp, fun i hi => ?_⟩
          by_cases e : i = v
          · subst e
            simpa using hd
          · exact hall i (by omega)
      · simp -implicitDefEqProofs (disch := omega) only [go_sem, Tryd.results24]
        have : a = b := gd_ext (by omega) fun i hi => hall i (by omega)
        simp [this]
theorem sameDebts_ev (a b : List Deb) (ha : a.length ≤ 9223372036854775807) (hb : b.length ≤ 9223372036854775807) : Ev Tryd.prog 25 [.sl 3 (a.map DP), .sl 3 (b.map DP)] (B (decide (a = b))) := by
  refine ev_of Tryd.func25 rfl (by kernel_rfl) mo (Nat.le_of_ble_eq_true rfl) ?_
  simp -implicitDefEqProofs (disch := omega) only [go_sem, Tryd.ntmps25]
  refine branch_mk (fun hb => ?_) (fun hb => ?_)
  · simp -implicitDefEqProofs (disch := omega) only [go_sem, Tryd.results25]
    have : ¬ a = b := fun e => by subst e; omega
    simp [this]
  · simp -implicitDefEqProofs (disch := omega) only [go_sem]
    refine loopC_mk (fun n E σ => ∃ v : Nat, v + n = a.length ∧ E 0 = .sl 3 (a.map DP) ∧ E 1 = .sl 3 (b.map DP) ∧ E 5 = I v ∧ ∀ i, i < v → gd a i = gd b i) a.length ⟨0, by omega, ?_⟩ ?_
    · simp -implicitDefEqProofs (disch := omega) only [go_sem]
      simp
    · rintro n E σ ⟨v, hv, h0, h1, h5, hall⟩
      simp -implicitDefEqProofs (disch := omega) only [go_sem, h0, h1, h5]
      refine branch_mk (fun hc => ?_) (fun hc => ?_)
      · simp -implicitDefEqProofs (disch := omega) only [go_sem, h0, h1, h5]
        refine branch_mk (fun hd => ?_) (fun hd => ?_)
        · simp -implicitDefEqProofs (disch := omega) only [go_sem, Tryd.results25]
          have : ¬ a = b := fun e => by subst e; simp at hd
          simp [this]
        · simp -implicitDefEqProofs (disch := omega) only [go_sem, h0, h1, h5]
          refine againQ_mk (n - 1) (by omega) ⟨v + 1, by omega, ?_⟩
          simp -implicitDefEqProofs (disch := omega) only [go_sem, h0, h1, h5]
          refine ⟨by simp, fun i hi => ?_⟩
          by_cases e : i = v
          · subst e
            simp at hd; exact Prod.ext hd.1 (Prod.ext hd.2.1 hd.2.2)
          · exact hall i (by omega)
      · simp -implicitDefEqProofs (disch := omega) only [go_sem, Tryd.results25]
        have : a = b := gd_ext (by omega) fun i hi => hall i (by omega)
        simp [this]
end Go.Proofs.YtgbcfpcjljhijaaDoor
set_option maxRecDepth 100000
namespace Go.Proofs.YtgbcfpcjljhijaaDoor
open Go.Vai Go Go.Proofs
open Nat (reduceEqDiff reduceMul reduceAdd reduceDiv reduceLeDiff)
open Int (reduceToNat reduceNe reduceEq reduceLT reduceLE)
structure Fiv where
  a : Int
  b : Int
  c : Int
  d : Int
  e : Int
deriving Inhabited
abbrev FP (x : Fiv) : AV := .agg [I x.a, I x.b, I x.c, I x.d, I x.e]
abbrev FL (l : List Fiv) : AV := .sl 5 (l.map FP)
def Fiv.r (x : Fiv) : Prop := R64 x.a ∧ R64 x.b ∧ R64 x.c ∧ R64 x.d ∧ R64 x.e
section
variable (p : Nat → Bool) (l : List Fiv)
@[go_sem] theorem namesL_FP : AV.namesL p (l.map FP) = false := namesL_map p l FP fun _ => rfl
@[go_sem] theorem flatL_FP : AV.flatL (l.map FP) = true := flatL_map l FP fun _ => rfl
end
def byteT (e : Int) : Int := 97 + pickF (e.tdiv 4) 26
def textT (b : Int) : Nat → ByteArray
  | 0 => ⟨#[]⟩
  | n + 1 => textT b n ++ strOfNums [b]
theorem textT_size (b : Int) : ∀ n, (textT b n).size = n
  | 0 => rfl
  | n + 1 => by rw [textT, ByteArray.size_append, textT_size b n, strOfNums_size]; rfl
def oneF (x : Fiv) : Ch :=
  { h := if pickF x.a 8 = 7 then pickF x.a 64 else pickF x.a 6
    p := pickF x.b 8
    q := (pickF x.b 8 + 1 + pickF x.c 7).tmod 8
    a := if pickF x.d 16 = 15 then pickF x.d 1000000001 else pickF x.d 1000
    t := textT (byteT x.e) (pickF x.e 4).toNat }
theorem oneF_good (x : Fiv) : (oneF x).good := by
  have h1 := pickF_in (c := x.a) (n := 8) (by omega)
  have h2 := pickF_in (c := x.a) (n := 64) (by omega)
  have h3 := pickF_in (c := x.a) (n := 6) (by omega)
  have h4 := pickF_in (c := x.b) (n := 8) (by omega)
  have h5 := pickF_in (c := x.c) (n := 7) (by omega)
  have h6 := pickF_in (c := x.d) (n := 1000000001) (by omega)
  have h7 := pickF_in (c := x.d) (n := 1000) (by omega)
  have h8 := pickF_in (c := x.e) (n := 4) (by omega)
  have ht : (oneF x).t.size ≤ 100 := by show (textT _ _).size ≤ 100; rw [textT_size]; omega
  have hm : (pickF x.b 8 + 1 + pickF x.c 7).tmod 8 = (pickF x.b 8 + 1 + pickF x.c 7) % 8 := Int.tmod_eq_emod_of_nonneg (by omega)
  refine ⟨⟨h4.1, by show pickF x.b 8 ≤ 7; omega, ?_, ?_, ?_, ?_, ?_, ?_, ht⟩, ?_⟩
  · show 0 ≤ (pickF x.b 8 + 1 + pickF x.c 7).tmod 8; rw [hm]; omega
  · show (pickF x.b 8 + 1 + pickF x.c 7).tmod 8 ≤ 7; rw [hm]; omega
  · show 0 ≤ (if _ then _ else _ : Int); split <;> omega
  · show (if _ then _ else _ : Int) ≤ 1000000000; split <;> omega
  · show 0 ≤ (if _ then _ else _ : Int); split <;> omega
  · show (if _ then _ else _ : Int) ≤ 63; split <;> omega
  · show pickF x.b 8 ≠ (pickF x.b 8 + 1 + pickF x.c 7).tmod 8; rw [hm]; omega
set_option maxHeartbeats 2000000 in
theorem one_ev (x : Fiv) (hx : x.r) : Ev Tryd.prog 35 [FP x] (CH (oneF x)) := by
  obtain ⟨ra, rb, rc, rd, re⟩ := hx
  have h1 := pickF_in (c := x.a) (n := 8) (by omega)
  have h4 := pickF_in (c := x.b) (n := 8) (by omega)
  have h5 := pickF_in (c := x.c) (n := 7) (by omega)
  have h8 := pickF_in (c := x.e) (n := 4) (by omega)
  have h9 := pickF_in (c := x.e.tdiv 4) (n := 26) (by omega)
  have re4 := R64_tdiv (d := 4) (by omega) re
  have hba : byteT x.e = 97 + pickF (x.e.tdiv 4) 26 := rfl
  have hone : CH (oneF x) = .agg [I (if pickF x.a 8 = 7 then pickF x.a 64 else pickF x.a 6), I (pickF x.b 8), I ((pickF x.b 8 + 1 + pickF x.c 7).tmod 8), I (if pickF x.d 16 = 15 then pickF x.d 1000000001 else pickF x.d 1000), Str (textT (byteT x.e) (pickF x.e 4).toNat)] := rfl
  rw [hone]
  clear hone
  refine ev_ofB [10] Tryd.func35 rfl (by kernel_rfl) mo (Nat.le_of_ble_eq_true rfl) ?_
  simp -implicitDefEqProofs (disch := omega) only [go_sem, Tryd.ntmps35]
  refine callC_at (pickR_ev x.a 6 ra (by omega)) ?_
  simp -implicitDefEqProofs (disch := omega) only [go_sem]
  refine callC_at (pickR_ev x.b 8 rb (by omega)) ?_
  simp -implicitDefEqProofs (disch := omega) only [go_sem]
  refine callC_at (pickR_ev x.d 1000 rd (by omega)) ?_
  simp -implicitDefEqProofs (disch := omega) only [go_sem]
  refine callC_at (pickR_ev x.a 8 ra (by omega)) ?_
  simp -implicitDefEqProofs (disch := omega) only [go_sem]
  refine branch_join (fun E σ => E 1 = .ptr 75497488 5 0 0 ∧ E 2 = .ptr 75497504 5 0 0 ∧ E 3 = .ptr 75497520 5 0 0 ∧ σ 75497488 = some ⟨68, 5, [FP x]⟩ ∧ σ 75497504 = some ⟨30, 5, [.agg [I 0, I 0, I 0, I 0, Str ByteArray.empty]]⟩ ∧ σ 75497520 = some ⟨30, 5, [.agg [I (if pickF x.a 8 = 7 then pickF x.a 64 else pickF x.a 6), I (pickF x.b 8), I 0, I (pickF x.d 1000), Str ByteArray.empty]]⟩) (fun hb => ?_) (fun hb => ?_) ?_
  · simp -implicitDefEqProofs (disch := omega) only [go_sem]
    refine callC_at (pickR_ev x.a 64 ra (by omega)) ?_
    rw [if_pos hb]
    simp -implicitDefEqProofs (disch := omega) only [go_sem]
  · rw [if_neg hb]
    simp -implicitDefEqProofs (disch := omega) only [go_sem]
  generalize (if pickF x.a 8 = 7 then pickF x.a 64 else pickF x.a 6) = ch
  rintro E σ ⟨e1, e2, e3, s1, s2, s3⟩
  simp -implicitDefEqProofs (disch := omega) only [go_sem, e1, e2, e3, s1, s2, s3]
  refine callC_at (pickR_ev x.c 7 rc (by omega)) ?_
  simp -implicitDefEqProofs (disch := omega) only [go_sem, e1, e2, e3, s1, s2, s3]
  generalize (pickF x.b 8 + 1 + pickF x.c 7).tmod 8 = cq at *
  refine callC_at (pickR_ev x.d 16 rd (by omega)) ?_
  simp -implicitDefEqProofs (disch := omega) only [go_sem, e1, e2, e3, s1, s2, s3]
  refine branch_join (fun E σ => E 1 = .ptr 75497488 5 0 0 ∧ E 2 = .ptr 75497504 5 0 0 ∧ E 3 = .ptr 75497520 5 0 0 ∧ σ 75497488 = some ⟨68, 5, [FP x]⟩ ∧ σ 75497504 = some ⟨30, 5, [.agg [I 0, I 0, I 0, I 0, Str ByteArray.empty]]⟩ ∧ σ 75497520 = some ⟨30, 5, [.agg [I ch, I (pickF x.b 8), I cq, I (if pickF x.d 16 = 15 then pickF x.d 1000000001 else pickF x.d 1000), Str ByteArray.empty]]⟩) (fun hb => ?_) (fun hb => ?_) ?_
  · simp -implicitDefEqProofs (disch := omega) only [go_sem, e1, e2, e3, s1, s2, s3]
    refine callC_at (pickR_ev x.d 1000000001 rd (by omega)) ?_
    rw [if_pos hb]
    simp -implicitDefEqProofs (disch := omega) only [go_sem, e1, e2, e3, s1, s2, s3, and_self]
  · rw [if_neg hb]
    simp -implicitDefEqProofs (disch := omega) only [go_sem, e1, e2, e3, s1, s2, s3, and_self]
  clear e1 e2 e3 s1 s2 s3 E σ
  generalize (if pickF x.d 16 = 15 then pickF x.d 1000000001 else pickF x.d 1000) = ca
  rintro E σ ⟨e1, e2, e3, s1, s2, s3⟩
  simp -implicitDefEqProofs (disch := omega) only [go_sem, e1, e2, e3, s1, s2, s3]
  have hp4 := pickR_ev x.e 4 re (by omega)
  have hp26 := pickR_ev (x.e.tdiv 4) 26 re4 (by omega)
  obtain ⟨m, hm⟩ : ∃ m : Nat, pickF x.e 4 = m := ⟨(pickF x.e 4).toNat, by omega⟩
  have hmt : (pickF x.e 4).toNat = m := by omega
  rw [hm] at hp4
  rw [hmt]
  refine loopC_mk (fun n E σ => ∃ v : Nat, v + n = m ∧ E 1 = .ptr 75497488 5 0 0 ∧ E 2 = .ptr 75497504 5 0 0 ∧ E 3 = .ptr 75497520 5 0 0 ∧ E 4 = I v ∧ σ 75497488 = some ⟨68, 5, [FP x]⟩ ∧ σ 75497504 = some ⟨30, 5, [.agg [I 0, I 0, I 0, I 0, Str ByteArray.empty]]⟩ ∧ σ 75497520 = some ⟨30, 5, [.agg [I ch, I (pickF x.b 8), I cq, I ca, Str (textT (byteT x.e) v)]]⟩) m ⟨0, by omega, ?_⟩ ?_
  · simp -implicitDefEqProofs (disch := omega) only [go_sem, e1, e2, e3, s1, s2, s3]
    exact ⟨rfl, rfl⟩
  clear e1 e2 e3 s1 s2 s3 E σ
  rintro n E σ ⟨v, hv, e1, e2, e3, e4, s1, s2, s3⟩
  simp -implicitDefEqProofs (disch := omega) only [go_sem, e1, e2, e3, e4, s1, s2, s3]
  refine callC_at hp4 ?_
  simp -implicitDefEqProofs (disch := omega) only [go_sem, e1, e2, e3, e4, s1, s2, s3]
  refine branch_mk (fun hc => ?_) (fun hc => ?_)
  · simp -implicitDefEqProofs (disch := omega) only [go_sem, e1, e2, e3, e4, s1, s2, s3]
    have hts := textT_size (byteT x.e) v
    have htn : textT (byteT x.e) (v + 1) = textT (byteT x.e) v ++ strOfNums [byteT x.e] := rfl
    have hw8 : IntKind.u8.wrap (97 + pickF (x.e.tdiv 4) 26) = 97 + pickF (x.e.tdiv 4) 26 := by simp [IntKind.wrap, IntKind.bits, IntKind.signed]; omega
    have hs1 : (strOfNums [byteT x.e]).size = 1 := strOfNums_size _
    generalize hcur : textT (byteT x.e) v = cur at *
    rw [hba] at htn hs1
    generalize pickF (x.e.tdiv 4) 26 = b26 at *
    generalize pickF x.b 8 = pb at *
    have hq4 : IntKind.i64.wrap (x.e.tdiv 4) = x.e.tdiv 4 := wrap64_of re4
    have hb8 : IntKind.i64.wrap (97 + b26) = 97 + b26 := wrap64_of ⟨by omega, by omega⟩
    refine region_J (Plain.mono) (fun D E σ => E 1 = .ptr 75497488 5 0 0 ∧ E 2 = .ptr 75497504 5 0 0 ∧ E 3 = .ptr 75497520 5 0 0 ∧ E 4 = I v ∧ σ 75497488 = some ⟨68, 5, [FP x]⟩ ∧ σ 75497504 = some ⟨30, 5, [.agg [I 0, I 0, I 0, I 0, Str ByteArray.empty]]⟩ ∧ (D 12 = false → σ 75497520 = some ⟨30, 5, [.agg [I ch, I pb, I cq, I ca, Str cur]]⟩) ∧ (D 12 = true → σ 75497520 = some ⟨30, 5, [.agg [I ch, I pb, I cq, I ca, Str (cur ++ strOfNums [97 + b26])]]⟩) ∧ (D 12 = true → D 10 = true) ∧ (D 10 = true → D 1 = true) ∧ (D 0 = true → E 47 = .ptr 75497520 5 0 4) ∧ (D 1 = true → E 48 = Str cur) ∧ (D 2 = true → E 49 = .ptr 75497488 5 0 4) ∧ (D 3 = true → E 50 = I x.e) ∧ (D 4 = true → E 51 = I (x.e.tdiv 4)) ∧ (D 5 = true → E 52 = I b26) ∧ (D 6 = true → E 53 = I (97 + b26)) ∧ (D 7 = true → E 54 = Y (97 + b26)) ∧ (D 8 = true → E 55 = .own 75498352 1 0 1 ∧ σ 75498352 = some ⟨5, 1, [Y (97 + b26)]⟩) ∧ (D 9 = true → E 56 = Str (strOfNums [97 + b26])) ∧ (D 10 = true → E 57 = Str (cur ++ strOfNums [97 + b26])) ∧ (D 11 = true → E 58 = .ptr 75497520 5 0 4)) ?_ ?_ ?_
    · simp -implicitDefEqProofs (disch := omega) only [go_sem, hw8, hb8, hs1, hq4]
      simp -implicitDefEqProofs (disch := omega) only [go_sem, e1, e2, e3, e4, s1, s2, s3]; simp
    · simp only [stepsJ, and_true]
      refine ⟨?_, ?_, ?_, ?_, ?_, ?_, ?_, ?_, ?_, ?_, ?_, ?_, ?_⟩
      · rintro D hD hd E σ ⟨e1, e2, e3, e4, s1, s2, s12a, s12b, c12_10, c10_1, j0, j1, j2, j3, j4, j5, j6, j7, j8, j9, j10, j11⟩
        cases h12 : D 12
        · have g12 := s12a h12
          simp -implicitDefEqProofs (disch := omega) only [go_sem, e1, e2, e3, e4, s1, s2, g12, hw8, hb8, hs1, hq4]
          repeat' apply And.intro
          all_goals first | assumption | (intro h; rw [h12] at h; cases h; done) | (intro _; assumption) | (intro h; refine kill_of ?_ (by first | rfl | simp -implicitDefEqProofs (disch := omega) only [go_sem]); first | exact j0 h | exact j1 h | exact j2 h | exact j3 h | exact j4 h | exact j5 h | exact j6 h | exact j7 h | exact j8 h | exact j9 h | exact j10 h | exact j11 h) | (intro h; have hh := j8 h; simp -implicitDefEqProofs (disch := omega) only [go_sem, hh]; done) | (intro h; simp -implicitDefEqProofs (disch := omega) only [go_sem]; done) | (intros; trivial)
        · have g12 := s12b h12
          simp -implicitDefEqProofs (disch := omega) only [go_sem, e1, e2, e3, e4, s1, s2, g12, hw8, hb8, hs1, hq4]
          repeat' apply And.intro
          all_goals first | assumption | (intro h; rw [h12] at h; cases h; done) | (intro _; assumption) | (intro h; refine kill_of ?_ (by first | rfl | simp -implicitDefEqProofs (disch := omega) only [go_sem]); first | exact j0 h | exact j1 h | exact j2 h | exact j3 h | exact j4 h | exact j5 h | exact j6 h | exact j7 h | exact j8 h | exact j9 h | exact j10 h | exact j11 h) | (intro h; have hh := j8 h; simp -implicitDefEqProofs (disch := omega) only [go_sem, hh]; done) | (intro h; simp -implicitDefEqProofs (disch := omega) only [go_sem]; done) | (intros; trivial)
      · rintro D hD hd E σ ⟨e1, e2, e3, e4, s1, s2, s12a, s12b, c12_10, c10_1, j0, j1, j2, j3, j4, j5, j6, j7, j8, j9, j10, j11⟩
        have d0 : D 0 = true := hd ⟨0, .data⟩ (by simp) rfl
        have q0 := j0 d0
        cases h12 : D 12
        · have g12 := s12a h12
          simp -implicitDefEqProofs (disch := omega) only [go_sem, e1, e2, e3, e4, s1, s2, q0, g12, hw8, hb8, hs1, hq4]
          repeat' apply And.intro
          all_goals first | assumption | (intro h; rw [h12] at h; cases h; done) | (intro _; assumption) | (intro h; refine kill_of ?_ (by first | rfl | simp -implicitDefEqProofs (disch := omega) only [go_sem]); first | exact j0 h | exact j1 h | exact j2 h | exact j3 h | exact j4 h | exact j5 h | exact j6 h | exact j7 h | exact j8 h | exact j9 h | exact j10 h | exact j11 h) | (intro h; have hh := j8 h; simp -implicitDefEqProofs (disch := omega) only [go_sem, hh]; done) | (intro h; simp -implicitDefEqProofs (disch := omega) only [go_sem]; done) | (intros; trivial)
        · have hh := (c10_1 (c12_10 h12)); rw [show D 1 = D (0 + 1) from rfl] at hh; rw [hD] at hh; cases hh
      · rintro D hD hd E σ ⟨e1, e2, e3, e4, s1, s2, s12a, s12b, c12_10, c10_1, j0, j1, j2, j3, j4, j5, j6, j7, j8, j9, j10, j11⟩
        cases h12 : D 12
        · have g12 := s12a h12
          simp -implicitDefEqProofs (disch := omega) only [go_sem, e1, e2, e3, e4, s1, s2, g12, hw8, hb8, hs1, hq4]
          repeat' apply And.intro
          all_goals first | assumption | (intro h; rw [h12] at h; cases h; done) | (intro _; assumption) | (intro h; refine kill_of ?_ (by first | rfl | simp -implicitDefEqProofs (disch := omega) only [go_sem]); first | exact j0 h | exact j1 h | exact j2 h | exact j3 h | exact j4 h | exact j5 h | exact j6 h | exact j7 h | exact j8 h | exact j9 h | exact j10 h | exact j11 h) | (intro h; have hh := j8 h; simp -implicitDefEqProofs (disch := omega) only [go_sem, hh]; done) | (intro h; simp -implicitDefEqProofs (disch := omega) only [go_sem]; done) | (intros; trivial)
        · have g12 := s12b h12
          simp -implicitDefEqProofs (disch := omega) only [go_sem, e1, e2, e3, e4, s1, s2, g12, hw8, hb8, hs1, hq4]
          repeat' apply And.intro
          all_goals first | assumption | (intro h; rw [h12] at h; cases h; done) | (intro _; assumption) | (intro h; refine kill_of ?_ (by first | rfl | simp -implicitDefEqProofs (disch := omega) only [go_sem]); first | exact j0 h | exact j1 h | exact j2 h | exact j3 h | exact j4 h | exact j5 h | exact j6 h | exact j7 h | exact j8 h | exact j9 h | exact j10 h | exact j11 h) | (intro h; have hh := j8 h; simp -implicitDefEqProofs (disch := omega) only [go_sem, hh]; done) | (intro h; simp -implicitDefEqProofs (disch := omega) only [go_sem]; done) | (intros; trivial)
      · rintro D hD hd E σ ⟨e1, e2, e3, e4, s1, s2, s12a, s12b, c12_10, c10_1, j0, j1, j2, j3, j4, j5, j6, j7, j8, j9, j10, j11⟩
        have d2 : D 2 = true := hd ⟨2, .data⟩ (by simp) rfl
        have q2 := j2 d2
        cases h12 : D 12
        · have g12 := s12a h12
          simp -implicitDefEqProofs (disch := omega) only [go_sem, e1, e2, e3, e4, s1, s2, q2, g12, hw8, hb8, hs1, hq4]
          repeat' apply And.intro
          all_goals first | assumption | (intro h; rw [h12] at h; cases h; done) | (intro _; assumption) | (intro h; refine kill_of ?_ (by first | rfl | simp -implicitDefEqProofs (disch := omega) only [go_sem]); first | exact j0 h | exact j1 h | exact j2 h | exact j3 h | exact j4 h | exact j5 h | exact j6 h | exact j7 h | exact j8 h | exact j9 h | exact j10 h | exact j11 h) | (intro h; have hh := j8 h; simp -implicitDefEqProofs (disch := omega) only [go_sem, hh]; done) | (intro h; simp -implicitDefEqProofs (disch := omega) only [go_sem]; done) | (intros; trivial)
        · have g12 := s12b h12
          simp -implicitDefEqProofs (disch := omega) only [go_sem, e1, e2, e3, e4, s1, s2, q2, g12, hw8, hb8, hs1, hq4]
          repeat' apply And.intro
          all_goals first | assumption | (intro h; rw [h12] at h; cases h; done) | (intro _; assumption) | (intro h; refine kill_of ?_ (by first | rfl | simp -implicitDefEqProofs (disch := omega) only [go_sem]); first | exact j0 h | exact j1 h | exact j2 h | exact j3 h | exact j4 h | exact j5 h | exact j6 h | exact j7 h | exact j8 h | exact j9 h | exact j10 h | exact j11 h) | (intro h; have hh := j8 h; simp -implicitDefEqProofs (disch := omega) only [go_sem, hh]; done) | (intro h; simp -implicitDefEqProofs (disch := omega) only [go_sem]; done) | (intros; trivial)
      · rintro D hD hd E σ ⟨e1, e2, e3, e4, s1, s2, s12a, s12b, c12_10, c10_1, j0, j1, j2, j3, j4, j5, j6, j7, j8, j9, j10, j11⟩
        have d3 : D 3 = true := hd ⟨3, .data⟩ (by simp) rfl
        have q3 := j3 d3
        cases h12 : D 12
        · have g12 := s12a h12
          simp -implicitDefEqProofs (disch := omega) only [go_sem, e1, e2, e3, e4, s1, s2, q3, g12, hw8, hb8, hs1, hq4]
          repeat' apply And.intro
          all_goals first | assumption | (intro h; rw [h12] at h; cases h; done) | (intro _; assumption) | (intro h; refine kill_of ?_ (by first | rfl | simp -implicitDefEqProofs (disch := omega) only [go_sem]); first | exact j0 h | exact j1 h | exact j2 h | exact j3 h | exact j4 h | exact j5 h | exact j6 h | exact j7 h | exact j8 h | exact j9 h | exact j10 h | exact j11 h) | (intro h; have hh := j8 h; simp -implicitDefEqProofs (disch := omega) only [go_sem, hh]; done) | (intro h; simp -implicitDefEqProofs (disch := omega) only [go_sem]; done) | (intros; trivial)
        · have g12 := s12b h12
          simp -implicitDefEqProofs (disch := omega) only [go_sem, e1, e2, e3, e4, s1, s2, q3, g12, hw8, hb8, hs1, hq4]
          repeat' apply And.intro
          all_goals first | assumption | (intro h; rw [h12] at h; cases h; done) | (intro _; assumption) | (intro h; refine kill_of ?_ (by first | rfl | simp -implicitDefEqProofs (disch := omega) only [go_sem]); first | exact j0 h | exact j1 h | exact j2 h | exact j3 h | exact j4 h | exact j5 h | exact j6 h | exact j7 h | exact j8 h | exact j9 h | exact j10 h | exact j11 h) | (intro h; have hh := j8 h; simp -implicitDefEqProofs (disch := omega) only [go_sem, hh]; done) | (intro h; simp -implicitDefEqProofs (disch := omega) only [go_sem]; done) | (intros; trivial)
      · rintro D hD hd E σ ⟨e1, e2, e3, e4, s1, s2, s12a, s12b, c12_10, c10_1, j0, j1, j2, j3, j4, j5, j6, j7, j8, j9, j10, j11⟩
        have d4 : D 4 = true := hd ⟨4, .data⟩ (by simp) rfl
        have q4 := j4 d4
        cases h12 : D 12
        · have g12 := s12a h12
          simp -implicitDefEqProofs (disch := omega) only [go_sem, e1, e2, e3, e4, s1, s2, q4, g12, hw8, hb8, hs1, hq4]
          refine callC_at hp26 ?_
          simp -implicitDefEqProofs (disch := omega) only [go_sem, e1, e2, e3, e4, s1, s2, q4, g12, hw8, hb8, hs1, hq4]
          repeat' apply And.intro
          all_goals first | assumption | (intro h; rw [h12] at h; cases h; done) | (intro _; assumption) | (intro h; refine kill_of ?_ (by first | rfl | simp -implicitDefEqProofs (disch := omega) only [go_sem]); first | exact j0 h | exact j1 h | exact j2 h | exact j3 h | exact j4 h | exact j5 h | exact j6 h | exact j7 h | exact j8 h | exact j9 h | exact j10 h | exact j11 h) | (intro h; have hh := j8 h; simp -implicitDefEqProofs (disch := omega) only [go_sem, hh]; done) | (intro h; simp -implicitDefEqProofs (disch := omega) only [go_sem]; done) | (intros; trivial)
        · have g12 := s12b h12
          simp -implicitDefEqProofs (disch := omega) only [go_sem, e1, e2, e3, e4, s1, s2, q4, g12, hw8, hb8, hs1, hq4]
          refine callC_at hp26 ?_
          simp -implicitDefEqProofs (disch := omega) only [go_sem, e1, e2, e3, e4, s1, s2, q4, g12, hw8, hb8, hs1, hq4]
          repeat' apply And.intro
          all_goals first | assumption | (intro h; rw [h12] at h; cases h; done) | (intro _; assumption) | (intro h; refine kill_of ?_ (by first | rfl | simp -implicitDefEqProofs (disch := omega) only [go_sem]); first | exact j0 h | exact j1 h | exact j2 h | exact j3 h | exact j4 h | exact j5 h | exact j6 h | exact j7 h | exact j8 h | exact j9 h | exact j10 h | exact j11 h) | (intro h; have hh := j8 h; simp -implicitDefEqProofs (disch := omega) only [go_sem, hh]; done) | (intro h; simp -implicitDefEqProofs (disch := omega) only [go_sem]; done) | (intros; trivial)
      · rintro D hD hd E σ ⟨e1, e2, e3, e4, s1, s2, s12a, s12b, c12_10, c10_1, j0, j1, j2, j3, j4, j5, j6, j7, j8, j9, j10, j11⟩
        have d5 : D 5 = true := hd ⟨5, .data⟩ (by simp) rfl
        have q5 := j5 d5
        cases h12 : D 12
        · have g12 := s12a h12
          simp -implicitDefEqProofs (disch := omega) only [go_sem, e1, e2, e3, e4, s1, s2, q5, g12, hw8, hb8, hs1, hq4]
          repeat' apply And.intro
          all_goals first | assumption | (intro h; rw [h12] at h; cases h; done) | (intro _; assumption) | (intro h; refine kill_of ?_ (by first | rfl | simp -implicitDefEqProofs (disch := omega) only [go_sem]); first | exact j0 h | exact j1 h | exact j2 h | exact j3 h | exact j4 h | exact j5 h | exact j6 h | exact j7 h | exact j8 h | exact j9 h | exact j10 h | exact j11 h) | (intro h; have hh := j8 h; simp -implicitDefEqProofs (disch := omega) only [go_sem, hh]; done) | (intro h; simp -implicitDefEqProofs (disch := omega) only [go_sem]; done) | (intros; trivial)
        · have g12 := s12b h12
          simp -implicitDefEqProofs (disch := omega) only [go_sem, e1, e2, e3, e4, s1, s2, q5, g12, hw8, hb8, hs1, hq4]
          repeat' apply And.intro
          all_goals first | assumption | (intro h; rw [h12] at h; cases h; done) | (intro _; assumption) | (intro h; refine kill_of ?_ (by first | rfl | simp -implicitDefEqProofs (disch := omega) only [go_sem]); first | exact j0 h | exact j1 h | exact j2 h | exact j3 h | exact j4 h | exact j5 h | exact j6 h | exact j7 h | exact j8 h | exact j9 h | exact j10 h | exact j11 h) | (intro h; have hh := j8 h; simp -implicitDefEqProofs (disch := omega) only [go_sem, hh]; done) | (intro h; simp -implicitDefEqProofs (disch := omega) only [go_sem]; done) | (intros; trivial)
      · rintro D hD hd E σ ⟨e1, e2, e3, e4, s1, s2, s12a, s12b, c12_10, c10_1, j0, j1, j2, j3, j4, j5, j6, j7, j8, j9, j10, j11⟩
        have d6 : D 6 = true := hd ⟨6, .data⟩ (by simp) rfl
        have q6 := j6 d6
        cases h12 : D 12
        · have g12 := s12a h12
          simp -implicitDefEqProofs (disch := omega) only [go_sem, e1, e2, e3, e4, s1, s2, q6, g12, hw8, hb8, hs1, hq4]
          repeat' apply And.intro
          all_goals first | assumption | (intro h; rw [h12] at h; cases h; done) | (intro _; assumption) | (intro h; refine kill_of ?_ (by first | rfl | simp -implicitDefEqProofs (disch := omega) only [go_sem]); first | exact j0 h | exact j1 h | exact j2 h | exact j3 h | exact j4 h | exact j5 h | exact j6 h | exact j7 h | exact j8 h | exact j9 h | exact j10 h | exact j11 h) | (intro h; have hh := j8 h; simp -implicitDefEqProofs (disch := omega) only [go_sem, hh]; done) | (intro h; simp -implicitDefEqProofs (disch := omega) only [go_sem]; done) | (intros; trivial)
        · have g12 := s12b h12
          simp -implicitDefEqProofs (disch := omega) only [go_sem, e1, e2, e3, e4, s1, s2, q6, g12, hw8, hb8, hs1, hq4]
          repeat' apply And.intro
          all_goals first | assumption | (intro h; rw [h12] at h; cases h; done) | (intro _; assumption) | (intro h; refine kill_of ?_ (by first | rfl | simp -implicitDefEqProofs (disch := omega) only [go_sem]); first | exact j0 h | exact j1 h | exact j2 h | exact j3 h | exact j4 h | exact j5 h | exact j6 h | exact j7 h | exact j8 h | exact j9 h | exact j10 h | exact j11 h) | (intro h; have hh := j8 h; simp -implicitDefEqProofs (disch := omega) only [go_sem, hh]; done) | (intro h; simp -implicitDefEqProofs (disch := omega) only [go_sem]; done) | (intros; trivial)
      · rintro D hD hd E σ ⟨e1, e2, e3, e4, s1, s2, s12a, s12b, c12_10, c10_1, j0, j1, j2, j3, j4, j5, j6, j7, j8, j9, j10, j11⟩
        have d7 : D 7 = true := hd ⟨7, .data⟩ (by simp) rfl
        have q7 := j7 d7
        cases h12 : D 12
        · have g12 := s12a h12
          simp -implicitDefEqProofs (disch := omega) only [go_sem, e1, e2, e3, e4, s1, s2, q7, g12, hw8, hb8, hs1, hq4]
          repeat' apply And.intro
          all_goals first | assumption | (intro h; rw [h12] at h; cases h; done) | (intro _; assumption) | (intro h; refine kill_of ?_ (by first | rfl | simp -implicitDefEqProofs (disch := omega) only [go_sem]); first | exact j0 h | exact j1 h | exact j2 h | exact j3 h | exact j4 h | exact j5 h | exact j6 h | exact j7 h | exact j8 h | exact j9 h | exact j10 h | exact j11 h) | (intro h; have hh := j8 h; simp -implicitDefEqProofs (disch := omega) only [go_sem, hh]; done) | (intro h; simp -implicitDefEqProofs (disch := omega) only [go_sem]; done) | (intros; trivial)
        · have g12 := s12b h12
          simp -implicitDefEqProofs (disch := omega) only [go_sem, e1, e2, e3, e4, s1, s2, q7, g12, hw8, hb8, hs1, hq4]
          repeat' apply And.intro
          all_goals first | assumption | (intro h; rw [h12] at h; cases h; done) | (intro _; assumption) | (intro h; refine kill_of ?_ (by first | rfl | simp -implicitDefEqProofs (disch := omega) only [go_sem]); first | exact j0 h | exact j1 h | exact j2 h | exact j3 h | exact j4 h | exact j5 h | exact j6 h | exact j7 h | exact j8 h | exact j9 h | exact j10 h | exact j11 h) | (intro h; have hh := j8 h; simp -implicitDefEqProofs (disch := omega) only [go_sem, hh]; done) | (intro h; simp -implicitDefEqProofs (disch := omega) only [go_sem]; done) | (intros; trivial)
      · rintro D hD hd E σ ⟨e1, e2, e3, e4, s1, s2, s12a, s12b, c12_10, c10_1, j0, j1, j2, j3, j4, j5, j6, j7, j8, j9, j10, j11⟩
        have d8 : D 8 = true := hd ⟨8, .data⟩ (by simp) rfl
        have q8 := j8 d8
        cases h12 : D 12
        · have g12 := s12a h12
          simp -implicitDefEqProofs (disch := omega) only [go_sem, e1, e2, e3, e4, s1, s2, q8, g12, hw8, hb8, hs1, hq4]
          refine toStr_mk [97 + b26] (by simp -implicitDefEqProofs (disch := omega) only [go_sem, q8]) (by intro b; simp -implicitDefEqProofs (disch := omega) only [go_sem, q8]; intro e; cases e) (e := 5) rfl rfl rfl ?_
          simp -implicitDefEqProofs (disch := omega) only [go_sem, e1, e2, e3, e4, s1, s2, q8, g12, hw8, hb8, hs1, hq4]
          repeat' apply And.intro
          all_goals first | assumption | (intro h; rw [h12] at h; cases h; done) | (intro _; assumption) | (intro h; refine kill_of ?_ (by first | rfl | simp -implicitDefEqProofs (disch := omega) only [go_sem]); first | exact j0 h | exact j1 h | exact j2 h | exact j3 h | exact j4 h | exact j5 h | exact j6 h | exact j7 h | exact j8 h | exact j9 h | exact j10 h | exact j11 h) | (intro h; have hh := j8 h; simp -implicitDefEqProofs (disch := omega) only [go_sem, hh]; done) | (intro h; simp -implicitDefEqProofs (disch := omega) only [go_sem]; done) | (intros; trivial)
        · have g12 := s12b h12
          simp -implicitDefEqProofs (disch := omega) only [go_sem, e1, e2, e3, e4, s1, s2, q8, g12, hw8, hb8, hs1, hq4]
          refine toStr_mk [97 + b26] (by simp -implicitDefEqProofs (disch := omega) only [go_sem, q8]) (by intro b; simp -implicitDefEqProofs (disch := omega) only [go_sem, q8]; intro e; cases e) (e := 5) rfl rfl rfl ?_
          simp -implicitDefEqProofs (disch := omega) only [go_sem, e1, e2, e3, e4, s1, s2, q8, g12, hw8, hb8, hs1, hq4]
          repeat' apply And.intro
          all_goals first | assumption | (intro h; rw [h12] at h; cases h; done) | (intro _; assumption) | (intro h; refine kill_of ?_ (by first | rfl | simp -implicitDefEqProofs (disch := omega) only [go_sem]); first | exact j0 h | exact j1 h | exact j2 h | exact j3 h | exact j4 h | exact j5 h | exact j6 h | exact j7 h | exact j8 h | exact j9 h | exact j10 h | exact j11 h) | (intro h; have hh := j8 h; simp -implicitDefEqProofs (disch := omega) only [go_sem, hh]; done) | (intro h; simp -implicitDefEqProofs (disch := omega) only [go_sem]; done) | (intros; trivial)
      · rintro D hD hd E σ ⟨e1, e2, e3, e4, s1, s2, s12a, s12b, c12_10, c10_1, j0, j1, j2, j3, j4, j5, j6, j7, j8, j9, j10, j11⟩
        have d1 : D 1 = true := hd ⟨1, .data⟩ (by simp) rfl
        have q1 := j1 d1
        have d9 : D 9 = true := hd ⟨9, .data⟩ (by simp) rfl
        have q9 := j9 d9
        cases h12 : D 12
        · have g12 := s12a h12
          simp -implicitDefEqProofs (disch := omega) only [go_sem, e1, e2, e3, e4, s1, s2, q1, q9, g12, hw8, hb8, hs1, hq4]
          repeat' apply And.intro
          all_goals first | assumption | (intro h; rw [h12] at h; cases h; done) | (intro _; assumption) | (intro h; refine kill_of ?_ (by first | rfl | simp -implicitDefEqProofs (disch := omega) only [go_sem]); first | exact j0 h | exact j1 h | exact j2 h | exact j3 h | exact j4 h | exact j5 h | exact j6 h | exact j7 h | exact j8 h | exact j9 h | exact j10 h | exact j11 h) | (intro h; have hh := j8 h; simp -implicitDefEqProofs (disch := omega) only [go_sem, hh]; done) | (intro h; simp -implicitDefEqProofs (disch := omega) only [go_sem]; done) | (intros; trivial)
        · have hh := (c12_10 h12); rw [show D 10 = D (0 + 1 + 1 + 1 + 1 + 1 + 1 + 1 + 1 + 1 + 1) from rfl] at hh; rw [hD] at hh; cases hh
      · rintro D hD hd E σ ⟨e1, e2, e3, e4, s1, s2, s12a, s12b, c12_10, c10_1, j0, j1, j2, j3, j4, j5, j6, j7, j8, j9, j10, j11⟩
        cases h12 : D 12
        · have g12 := s12a h12
          simp -implicitDefEqProofs (disch := omega) only [go_sem, e1, e2, e3, e4, s1, s2, g12, hw8, hb8, hs1, hq4]
          repeat' apply And.intro
          all_goals first | assumption | (intro h; rw [h12] at h; cases h; done) | (intro _; assumption) | (intro h; refine kill_of ?_ (by first | rfl | simp -implicitDefEqProofs (disch := omega) only [go_sem]); first | exact j0 h | exact j1 h | exact j2 h | exact j3 h | exact j4 h | exact j5 h | exact j6 h | exact j7 h | exact j8 h | exact j9 h | exact j10 h | exact j11 h) | (intro h; have hh := j8 h; simp -implicitDefEqProofs (disch := omega) only [go_sem, hh]; done) | (intro h; simp -implicitDefEqProofs (disch := omega) only [go_sem]; done) | (intros; trivial)
        · have g12 := s12b h12
          simp -implicitDefEqProofs (disch := omega) only [go_sem, e1, e2, e3, e4, s1, s2, g12, hw8, hb8, hs1, hq4]
          repeat' apply And.intro
          all_goals first | assumption | (intro h; rw [h12] at h; cases h; done) | (intro _; assumption) | (intro h; refine kill_of ?_ (by first | rfl | simp -implicitDefEqProofs (disch := omega) only [go_sem]); first | exact j0 h | exact j1 h | exact j2 h | exact j3 h | exact j4 h | exact j5 h | exact j6 h | exact j7 h | exact j8 h | exact j9 h | exact j10 h | exact j11 h) | (intro h; have hh := j8 h; simp -implicitDefEqProofs (disch := omega) only [go_sem, hh]; done) | (intro h; simp -implicitDefEqProofs (disch := omega) only [go_sem]; done) | (intros; trivial)
      · rintro D hD hd E σ ⟨e1, e2, e3, e4, s1, s2, s12a, s12b, c12_10, c10_1, j0, j1, j2, j3, j4, j5, j6, j7, j8, j9, j10, j11⟩
        have d10 : D 10 = true := hd ⟨10, .data⟩ (by simp) rfl
        have q10 := j10 d10
        have d11 : D 11 = true := hd ⟨11, .data⟩ (by simp) rfl
        have q11 := j11 d11
        cases h12 : D 12
        · have g12 := s12a h12
          simp -implicitDefEqProofs (disch := omega) only [go_sem, e1, e2, e3, e4, s1, s2, q10, q11, g12, hw8, hb8, hs1, hq4]
          repeat' apply And.intro
          all_goals first | assumption | (intro h; rw [h12] at h; cases h; done) | (intro _; assumption) | (intro h; refine kill_of ?_ (by first | rfl | simp -implicitDefEqProofs (disch := omega) only [go_sem]); first | exact j0 h | exact j1 h | exact j2 h | exact j3 h | exact j4 h | exact j5 h | exact j6 h | exact j7 h | exact j8 h | exact j9 h | exact j10 h | exact j11 h) | (intro h; have hh := j8 h; simp -implicitDefEqProofs (disch := omega) only [go_sem, hh]; done) | (intro h; simp -implicitDefEqProofs (disch := omega) only [go_sem]; done) | (intros; trivial)
        · rw [show D 12 = D (0 + 1 + 1 + 1 + 1 + 1 + 1 + 1 + 1 + 1 + 1 + 1 + 1) from rfl] at h12; rw [hD] at h12; cases h12
    · rintro D E σ hD ⟨e1, e2, e3, e4, s1, s2, s12a, s12b, c12_10, c10_1, j0, j1, j2, j3, j4, j5, j6, j7, j8, j9, j10, j11⟩
      have g12 := s12b (hD 12 (by decide))
      have q0 := j0 (hD 0 (by decide))
      have q1 := j1 (hD 1 (by decide))
      have q2 := j2 (hD 2 (by decide))
      have q3 := j3 (hD 3 (by decide))
      have q4 := j4 (hD 4 (by decide))
      have q5 := j5 (hD 5 (by decide))
      have q6 := j6 (hD 6 (by decide))
      have q7 := j7 (hD 7 (by decide))
      have q8 := j8 (hD 8 (by decide))
      have q9 := j9 (hD 9 (by decide))
      have q10 := j10 (hD 10 (by decide))
      have q11 := j11 (hD 11 (by decide))
      simp -implicitDefEqProofs (disch := omega) only [go_sem, e1, e2, e3, e4, s1, s2, g12]
      refine againQ_mk (n - 1) (by omega) ⟨v + 1, by omega, ?_⟩
      rw [hba, htn]
      simp -implicitDefEqProofs (disch := omega) only [go_sem, e1, e2, e3, e4, s1, s2, g12]
      simp
  · obtain rfl : v = m := by omega
    simp -implicitDefEqProofs (disch := omega) only [go_sem, e1, e2, e3, e4, s1, s2, s3, Tryd.results35]
end Go.Proofs.YtgbcfpcjljhijaaDoor
set_option maxRecDepth 100000
namespace Go.Proofs.YtgbcfpcjljhijaaDoor
open Go.Vai Go Go.Proofs
open Nat (reduceEqDiff reduceMul reduceAdd reduceDiv reduceLeDiff)
open Int (reduceToNat reduceNe reduceEq reduceLT reduceLE)
def madeK (key : Int) : ByteArray := strOfNums (List.replicate 32 (pickF key 256))
def madeF (x : List Fiv) : List Ch := (x.take 10).map oneF
theorem madeK_size (key : Int) : (madeK key).size = 32 := by unfold madeK; rw [strOfNums_size]; simp
theorem madeF_len (x : List Fiv) : (madeF x).length ≤ 10 := by unfold madeF; simp; omega
theorem madeF_good (x : List Fiv) : ∀ c ∈ madeF x, c.good := fun c hc => by
  obtain ⟨y, _, rfl⟩ := List.mem_map.1 hc; exact oneF_good y
theorem made_ok (key : Int) (x : List Fiv) : ledOK (madeK key) (madeF x) = true := by
  have := madeF_len x
  simp only [ledOK, madeK_size, decide_true, Bool.true_and]
  exact good_chsOK (by omega) (madeF_good x)
def fillB (b : Int) (v : Nat) : List Int := List.replicate v b ++ List.replicate (32 - v) 0
theorem fillB_set (b : Int) (v : Nat) (hv : v < 32) : (fillB b v).set v b = fillB b (v + 1) := by
  unfold fillB
  rw [List.set_append_right _ _ (by simp), List.length_replicate, Nat.sub_self, show 32 - v = (32 - (v + 1)) + 1 from by omega, List.replicate_succ, List.set_cons_zero, List.replicate_succ']
  simp
theorem fillB_length (b : Int) (v : Nat) (hv : v ≤ 32) : (fillB b v).length = 32 := by unfold fillB; simp; omega
@[go_sem] theorem made_Y (n : Nat) : List.replicate n (Y 0) = (List.replicate n 0).map Y := by simp
set_option maxHeartbeats 1000000 in
theorem made_ev (key : Int) (x : List Fiv) (hk : R64 key) (hx : x.length ≤ 9223372036854775807) (hr : ∀ y ∈ x, y.r) : Ev Tryd.prog 12 [I key, FL x] (LP (madeK key) (madeF x)) := by
  have hb := pickF_in (c := key) (n := 256) (by omega)
  have hpk := pickR_ev key 256 hk (by omega)
  refine ev_ofB [7, 11] Tryd.func12 rfl (by kernel_rfl) mo (Nat.le_of_ble_eq_true rfl) ?_
  unfold madeK
  generalize pickF key 256 = b at *
  simp -implicitDefEqProofs (disch := omega) only [go_sem, Tryd.ntmps12]
  refine loopC_mk (fun n E σ => ∃ v : Nat, v + n = 32 ∧ E 0 = I key ∧ E 1 = FL x ∧ E 4 = .ptr 27263040 2 0 0 ∧ E 5 = .own 27263120 1 0 32 ∧ E 6 = I v ∧ σ 27263040 = some ⟨26, 2, [.agg [Str ByteArray.empty, .v (.slice none 0 0)]]⟩ ∧ σ 27263120 = some ⟨5, 1, (fillB b v).map Y⟩) 32 ⟨0, by omega, ?_⟩ ?_
  · simp -implicitDefEqProofs (disch := omega) only [go_sem]
    exact ⟨rfl, rfl⟩
  · rintro n E σ ⟨v, hv, h0, h1, h4, h5, h6, s4, sB⟩
    have hfl := fillB_length b v (by omega)
    simp -implicitDefEqProofs (disch := omega) only [go_sem, h0, h1, h4, h5, h6, s4, sB]
    refine branch_mk (fun hc => ?_) (fun hc => ?_)
    · have hset := fillB_set b v (by omega)
      have hw8 : IntKind.u8.wrap b = b := by simp [IntKind.wrap, IntKind.bits, IntKind.signed]; omega
      simp -implicitDefEqProofs (disch := omega) only [go_sem, h0, h1, h4, h5, h6, s4, sB]
      refine callC_at hpk ?_
      simp -implicitDefEqProofs (disch := omega) only [go_sem, h0, h1, h4, h5, h6, s4, sB, hfl, hset, hw8]
      refine againQ_mk (n - 1) (by omega) ⟨v + 1, by omega, ?_⟩
      simp -implicitDefEqProofs (disch := omega) only [go_sem, h0, h1, h4, h5, h6, s4, sB, hfl, hset, hw8]
      simp
    · obtain rfl : v = 32 := by omega
      have hfb : fillB b 32 = List.replicate 32 b := by simp [fillB]
      rw [hfb] at sB hfl
      generalize hrb : List.replicate 32 b = rb at *
      have hrt : rb.take 32 = rb := List.take_of_length_le (by omega)
      simp -implicitDefEqProofs (disch := omega) only [go_sem, h0, h1, h4, h5, h6, s4, sB, hfl]
      refine toStr_mk rb (by simp -implicitDefEqProofs (disch := omega) only [go_sem, h5, sB, hfl, hrt]) (by intro b; simp -implicitDefEqProofs (disch := omega) only [go_sem, h5]; intro e; cases e) (e := 5) rfl rfl rfl ?_
      simp -implicitDefEqProofs (disch := omega) only [go_sem, h0, h1, h4, h5, h6, s4, sB, hfl]
      generalize strOfNums rb = key' at *
      refine nilOwn_C 27263088 27263089 0 1 30 5 (k := ⟨26, 2, [.agg [Str key', .v (.slice none 0 0)]]⟩) (el := .agg [Str key', .v (.slice none 0 0)]) (by simp -implicitDefEqProofs (disch := omega) only [go_sem]) (by decide) rfl rfl (by simp) (by simp -implicitDefEqProofs (disch := omega) only [go_sem]) rfl ?_
      refine reg_mk Plain.mono ?_
      simp -implicitDefEqProofs (disch := omega) only [go_sem, h0, h1, h4, h5, h6, s4, sB, hfl]
      clear hfb hrt hfl
      refine loopC_mk (fun n E σ => ∃ v : Nat, v + n = min x.length 10 ∧ E 1 = FL x ∧ E 4 = .ptr 27263040 2 0 0 ∧ E 7 = .ptr 27263088 2 0 0 ∧ E 8 = I v ∧ σ 27263040 = some ⟨26, 2, [.agg [Str ByteArray.empty, .v (.slice none 0 0)]]⟩ ∧ σ 27263088 = some ⟨26, 2, [.agg [Str key', .own 27263089 5 0 v]]⟩ ∧ σ 27263089 = some ⟨30, 5, ((x.take v).map oneF).map CH⟩) (min x.length 10) ⟨0, by omega, ?_⟩ ?_
      · simp -implicitDefEqProofs (disch := omega) only [go_sem, h0, h1, h4, h5, h6, s4, sB]
        simp
        try rfl
      · clear h0 h1 h4 h5 h6 s4 sB hc E σ
        rintro n E σ ⟨v, hv, h1, h4, h7, h8, s4, s7, sC⟩
        have htl : ((x.take v).map oneF).length = v := by simp; omega
        simp -implicitDefEqProofs (disch := omega) only [go_sem, h1, h4, h7, h8, s4, s7, sC]
        refine branch_mk (fun hc => ?_) (fun hc => ?_)
        · simp -implicitDefEqProofs (disch := omega) only [go_sem, h1, h4, h7, h8, s4, s7, sC]
          refine branch_mk (fun hc2 => ?_) (fun hc2 => ?_)
          · have htk : (x.take (v + 1)).map oneF = (x.take v).map oneF ++ [oneF (gd x v)] := by rw [List.take_add_one, gd_some x v (by omega)]; simp
            have hone := one_ev (gd x v) (hr _ (gd_mem x v (by omega)))
            generalize (x.take v).map oneF = q at *
            generalize oneF (gd x v) = c at *
            have hqt : q.take v = q := List.take_of_length_le (by omega)
            simp -implicitDefEqProofs (disch := omega) only [go_sem, h1, h4, h7, h8, s4, s7, sC]
            refine callC_at hone ?_
            simp -implicitDefEqProofs (disch := omega) only [go_sem, h1, h4, h7, h8, s4, s7, sC, htl, hqt]
            refine againQ_mk (n - 1) (by omega) ⟨v + 1, by omega, ?_⟩
            rw [htk]
            simp -implicitDefEqProofs (disch := omega) only [go_sem, h1, h4, h7, h8, s4, s7, sC, htl, hqt, and_self]
            simp
          · have hvm : (x.take v).map oneF = madeF x := by unfold madeF; congr 1; rw [show v = 10 from by omega]
            simp -implicitDefEqProofs (disch := omega) only [go_sem, h1, h4, h7, h8, s4, s7, sC]
            refine freeze_reg Plain.mono [27263088, 27263089] ?_
            rw [hvm] at sC htl
            have hqt : (madeF x).take v = madeF x := List.take_of_length_le (by omega)
            simp -implicitDefEqProofs (disch := omega) only [go_sem, h1, h4, h7, h8, s4, s7, sC, htl, hqt]
            simp -implicitDefEqProofs (disch := omega) only [go_sem, h1, h4, h7, h8, s4, s7, sC, htl, hqt, Tryd.results12]
        · have hvm : (x.take v).map oneF = madeF x := by
            unfold madeF; congr 1
            rw [List.take_of_length_le (by omega), List.take_of_length_le (by omega)]
          simp -implicitDefEqProofs (disch := omega) only [go_sem, h1, h4, h7, h8, s4, s7, sC]
          refine freeze_reg Plain.mono [27263088, 27263089] ?_
          rw [hvm] at sC htl
          have hqt : (madeF x).take v = madeF x := List.take_of_length_le (by omega)
          simp -implicitDefEqProofs (disch := omega) only [go_sem, h1, h4, h7, h8, s4, s7, sC, htl, hqt]
          simp -implicitDefEqProofs (disch := omega) only [go_sem, h1, h4, h7, h8, s4, s7, sC, htl, hqt, Tryd.results12]
end Go.Proofs.YtgbcfpcjljhijaaDoor
set_option maxRecDepth 100000
namespace Go.Proofs.YtgbcfpcjljhijaaDoor
open Go.Vai Go Go.Proofs
open Nat (reduceEqDiff reduceMul reduceAdd reduceDiv reduceLeDiff)
open Int (reduceToNat reduceNe reduceEq reduceLT reduceLE)
def exK : ByteArray := strOfNums (List.replicate 32 0)
def exC : List Ch := [⟨5, 1, 2, 300, ⟨#[97]⟩⟩, ⟨9, 2, 0, 50, ⟨#[98]⟩⟩, ⟨5, 1, 0, 7, ⟨#[]⟩⟩]
theorem example_ev : Ev Tryd.prog 40 [] (LP exK exC) := by
  refine ev_ofB [1] Tryd.func40 rfl (by kernel_rfl) mo (Nat.le_of_ble_eq_true rfl) ?_
  simp -implicitDefEqProofs (disch := omega) only [go_sem, Tryd.ntmps40]
  refine reg_mk Plain.mono ?_
  simp -implicitDefEqProofs (disch := omega) only [go_sem]
  refine toStr_mk (List.replicate 32 0) (by simp -implicitDefEqProofs (disch := omega) only [go_sem]; rfl) (by intro b; simp -implicitDefEqProofs (disch := omega) only [go_sem]; intro e; cases e) (e := 5) rfl rfl rfl ?_
  simp -implicitDefEqProofs (disch := omega) only [go_sem, Tryd.results40]
  rfl
theorem exC_ok : chsOK exC = true := by decide +kernel
theorem ex_ok : ledOK exK exC = true := by
  have : exK.size = 32 := by unfold exK; rw [strOfNums_size]; rfl
  simp only [ledOK, this, decide_true, Bool.true_and, exC_ok]
theorem exC_good : ∀ c ∈ exC, c.good := (chsOK_good exC_ok).2
theorem walk_sum {j : Nat} (hj : j < 8) : ∀ (p : List Tot) (h : Nat) (t : Tot), gd (walkT h p t).1 j = gd t.1 j + (p.map fun u => gd u.1 j).sum
  | [], h, t => by simp [walkT]
  | u :: p, h, t => by
    rw [walkT, walk_sum hj p]
    have : gd (liftT h u t).1 j = gd t.1 j + gd u.1 j := by
      unfold liftT; split
      · show gd (joinS _ _) j = _; rw [joinS_gd _ _ hj]; omega
      · show gd (joinS _ _) j = _; rw [joinS_gd _ _ hj]
    rw [this]; simp; omega
theorem check_sums {sl : Tot} {a : Acc} {m : List Ch} (ha : checkF sl a = true) {j : Nat} (hj : j < 8) (hne : gd (sumsF a.l) j ≠ gd (sumsF m) j) : checkF sl { a with l := m } = false := by
  cases hb : checkF sl { a with l := m } with
  | false => rfl
  | true =>
    exfalso
    simp only [checkF, Bool.and_eq_true, decide_eq_true_eq] at ha hb
    have e := ha.2.trans hb.2.symm
    have e1 := congrArg (fun t : Tot => gd t.1 j) e
    simp only [walk_sum hj] at e1
    apply hne
    have e2 : gd (leafT a.s a.l).1 j = gd (sumsF a.l) j := rfl
    have e3 : gd (leafT a.s m).1 j = gd (sumsF m) j := rfl
    rw [e2, e3] at e1
    omega
end Go.Proofs.YtgbcfpcjljhijaaDoor
set_option maxRecDepth 100000
namespace Go.Proofs.YtgbcfpcjljhijaaDoor
open Go.Vai Go Go.Proofs
open Nat (reduceEqDiff reduceMul reduceAdd reduceDiv reduceLeDiff)
open Int (reduceToNat reduceNe reduceEq reduceLT reduceLE)
def L5 : List Ch := [⟨5, 1, 2, 300, ⟨#[97]⟩⟩, ⟨5, 1, 0, 7, ⟨#[]⟩⟩]
def L5b : List Ch := [⟨5, 1, 2, 301, ⟨#[97]⟩⟩, ⟨5, 1, 0, 7, ⟨#[]⟩⟩]
theorem ex_of5 : ofF exC 5 = L5 := by rfl
theorem ex_of6 : ofF exC 6 = [] := by rfl
theorem ex_sib (h : Nat) (h6 : h < 64) (h63 : sibN h < 64) : gd (pathT exK exC h) 0 = leafK exK exC (sibN h) := by
  have : gd (pathT exK exC h) 0 = gd (rowT exK exC 0) (sibN (h / 2 ^ 0)) := rfl
  rw [this, Nat.pow_zero, Nat.div_one]
  unfold rowT gd; simp [h63]
theorem sane_ev : Ev Tryd.prog 11 [] (B true) := by
  have hl : exC.length ≤ 9223372036854775807 := by decide
  have k1 := sumsOK_ev exC hl exC_ok
  have k2 := sealOK_ev exK exC hl ex_ok
  have k5 := accOK_ev exK exC 5 hl ex_ok (by decide)
  have k6 := accOK_ev exK exC 6 hl ex_ok (by decide)
  have k4 := accOK_ev exK exC 4 hl ex_ok (by decide)
  have k8 := accOK_ev exK exC 8 hl ex_ok (by decide)
  have kd := debtsOK_ev exC exC_ok
  have kv := valid_ev exK exC hl
  have n60 : exC.length ≤ 60 := by decide
  have c5 := own_check exK exC_good n60 5 (by decide)
  have c6 := own_check exK exC_good n60 6 (by decide)
  have hs : (sealT exK exC).1 = sumsF exC := seal_sums exK exC_good n60
  have hsd : (sealT exK exC).2.size = 32 := (row_len8 exK exC_good n60 (k := 6) (i := 0) (by omega) (by decide)).2
  have hsum : sumsF exC = [57, -307, 250, 0, 0, 0, 0, 0] := by decide +kernel
  have hdeb : debF exC = [(1, 2, 300), (2, 0, 50), (1, 0, 7)] := by decide +kernel
  have f5 : (ownA exK exC 5).l = L5 := ex_of5
  have f6 : (ownA exK exC 6).l = [] := ex_of6
  have p4 : (gd (ownA exK exC 4).p 0).1 = [7, -307, 300, 0, 0, 0, 0, 0] := by
    show (gd (pathT exK exC 4) 0).1 = _
    rw [ex_sib 4 (by decide) (by decide)]
    show sumsF (ofF exC ((sibN 4 : Nat) : Int)) = _
    decide +kernel
  have p8 : (gd (ownA exK exC 8).p 0).1 = [50, 0, -50, 0, 0, 0, 0, 0] := by
    show (gd (pathT exK exC 8) 0).1 = _
    rw [ex_sib 8 (by decide) (by decide)]
    show sumsF (ofF exC ((sibN 8 : Nat) : Int)) = _
    decide +kernel
  have q4 : (ownA exK exC 4).p.length = 6 := by simp [ownA, pathT]
  have q8 : (ownA exK exC 8).p.length = 6 := by simp [ownA, pathT]
  have w5 : (ownA exK exC 5).p.length = 6 := by simp [ownA, pathT]
  have w6 : (ownA exK exC 6).p.length = 6 := by simp [ownA, pathT]
  have cb : checkF (sealT exK exC) { ownA exK exC 5 with l := L5b } = false := check_sums c5 (j := 1) (by decide) (by rw [f5]; decide +kernel)
  have hsn : ∀ n ∈ (sealT exK exC).1, R64 n := by rw [hs, hsum]; intro n hn; simp at hn; unfold R64; rcases hn with rfl | rfl | rfl | rfl <;> omega
  have e5 := check_ev (sealT exK exC) (ownA exK exC 5) (by rw [f5]; decide) (by omega) (by rw [hs, hsum]; decide) hsn (by omega)
  have e6 := check_ev (sealT exK exC) (ownA exK exC 6) (by rw [f6]; decide) (by omega) (by rw [hs, hsum]; decide) hsn (by omega)
  have eb := check_ev (sealT exK exC) { ownA exK exC 5 with l := L5b } (by decide) (by show (ownA exK exC 5).p.length ≤ _; omega) (by rw [hs, hsum]; decide) hsn (by omega)
  rw [c5] at e5; rw [c6] at e6; rw [cb] at eb
  have h5 : (ownA exK exC 5).h = 5 := rfl
  rw [show (decide (exK.size = 32) && chsOK exC) = true from ex_ok] at kv
  rw [hsum] at k1 hs
  rw [hdeb] at kd
  generalize ownA exK exC 5 = a5 at *
  generalize ownA exK exC 6 = a6 at *
  generalize ownA exK exC 4 = a4 at *
  generalize ownA exK exC 8 = a8 at *
  generalize sealT exK exC = S at *
  have hv0 : Ev Tryd.prog 21 [.agg [Str ByteArray.empty, .v (.slice none 0 0)]] (B false) := by
    have := valid_ev ByteArray.empty [] (by decide)
    rw [show (decide (ByteArray.empty.size = 32) && chsOK []) = false from rfl] at this
    exact this.asIf ⟨asIf_agg ⟨asIf_refl _, asIf_nil 5, trivial⟩, trivial⟩
  have hex := example_ev
  generalize exC = ec at *
  generalize exK = ek at *
  obtain ⟨x5, l5, s5, r5⟩ := a5
  obtain ⟨x6, l6, s6, r6⟩ := a6
  simp only at f5 f6 h5
  subst f5 f6 h5
  obtain ⟨S1, S2⟩ := S
  simp only at hs hsd
  subst hs
  refine ev_of Tryd.func11 rfl (by kernel_rfl) mo (Nat.le_of_ble_eq_true rfl) ?_
  simp -implicitDefEqProofs (disch := omega) only [go_sem, Tryd.ntmps11]
  refine callC_at hex ?_
  simp -implicitDefEqProofs (disch := omega) only [go_sem]
  refine callC_at k1 ?_
  simp -implicitDefEqProofs (disch := omega) only [go_sem]
  refine callC_at k2 ?_
  simp -implicitDefEqProofs (disch := omega) only [go_sem]
  refine callC_at k5 ?_
  simp -implicitDefEqProofs (disch := omega) only [go_sem]
  refine callC_at k6 ?_
  simp -implicitDefEqProofs (disch := omega) only [go_sem]
  refine callC_at k4 ?_
  simp -implicitDefEqProofs (disch := omega) only [go_sem]
  refine callC_at k8 ?_
  simp -implicitDefEqProofs (disch := omega) only [go_sem]
  refine callC_at kd ?_
  have hl5 : L5.length = 2 := rfl
  simp -implicitDefEqProofs (disch := omega) only [go_sem]
  refine branch_r (by omega) ?_
  simp -implicitDefEqProofs (disch := omega) only [go_sem]
  refine branch_r (by omega) ?_
  simp -implicitDefEqProofs (disch := omega) only [go_sem]
  refine branch_r (by omega) ?_
  simp -implicitDefEqProofs (disch := omega) only [go_sem]
  have hL5 : L5.map CH = [CH ⟨5, 1, 2, 300, ⟨#[97]⟩⟩, CH ⟨5, 1, 0, 7, ⟨#[]⟩⟩] := rfl
  simp -implicitDefEqProofs (disch := omega) only [go_sem, hl5, hL5, and_self]
  refine callC_at (intsR_ev [57, -307, 250, 0, 0, 0, 0, 0] [57, -307, 250, 0, 0, 0, 0, 0] (by decide) (by decide)) ?_
  simp -implicitDefEqProofs (disch := omega) only [go_sem]
  refine callC_at (intsR_ev [57, -307, 250, 0, 0, 0, 0, 0] [57, -307, 250, 0, 0, 0, 0, 0] (by decide) (by decide)) ?_
  simp -implicitDefEqProofs (disch := omega) only [go_sem, p4]
  refine callC_at (intsR_ev [7, -307, 300, 0, 0, 0, 0, 0] [7, -307, 300, 0, 0, 0, 0, 0] (by decide) (by decide)) ?_
  simp -implicitDefEqProofs (disch := omega) only [go_sem, p8]
  refine callC_at (intsR_ev [50, 0, -50, 0, 0, 0, 0, 0] [50, 0, -50, 0, 0, 0, 0, 0] (by decide) (by decide)) ?_
  simp -implicitDefEqProofs (disch := omega) only [go_sem]
  refine branch_l rfl ?_
  simp -implicitDefEqProofs (disch := omega) only [go_sem, hl5, hL5]
  refine callC_at e5 ?_
  simp -implicitDefEqProofs (disch := omega) only [go_sem]
  refine callC_at e6 ?_
  simp -implicitDefEqProofs (disch := omega) only [go_sem]
  refine callC_at eb ?_
  simp -implicitDefEqProofs (disch := omega) only [go_sem]
  refine branch_l (by omega) ?_
  simp -implicitDefEqProofs (disch := omega) only [go_sem]
  refine callC_at (sameDebts_ev [(1, 2, 300), (2, 0, 50), (1, 0, 7)] [(1, 2, 300), (2, 0, 50), (1, 0, 7)] (by decide) (by decide)) ?_
  simp -implicitDefEqProofs (disch := omega) only [go_sem]
  refine callC_at kv ?_
  simp -implicitDefEqProofs (disch := omega) only [go_sem]
  refine callC_at hv0 ?_
  simp -implicitDefEqProofs (disch := omega) only [go_sem, Tryd.results11]
end Go.Proofs.YtgbcfpcjljhijaaDoor
set_option maxRecDepth 100000
namespace Go.Vai
open Go.RowKit Go.ChangeShapes Go.WideShapes
theorem liftedG {H : Type} {enc : TypeId × Value → H} {C : Checked} {os : Os} {f : FuncId} {fn : Func} {s : ChangeSpec} {conds : List PathCond} {fresh handsOn : Bool} {tb : TypeId} {ps : List (AV → Prop)} {X : World → Array Value → Prop}
    (hX : ∀ (w w' : World) (args : Array Value), w.heap = w'.heap → X w args → X w' args)
    (own : ownKnob C.prog.godebug = none) (started : os.Started) (noInit : C.prog.inits.idxOf? f = none) (hfn : C.prog.funcs[f]? = some fn)
    (witness : ∃ (w : World) (tape : Tape) (i : Input), w.os = os ∧ (w.forCall tape i).Shaped C.prog ∧ i.vars = [] ∧ Input.okWide C.prog (w.forCall tape i) .any w.heap.size f i ∧
      ((s.pre enc C.prog fn conds false (w.forCall tape i).memory i.args ∧ X (w.forCall tape i).memory i.args) ∧ sizedMet enc C.prog fn (OpenSpec.ofChange s) false (w.forCall tape i).memory i.args) ∧ ({} : Assume).holds C.prog (lone (Frame.enter C.prog f i.args .normal) [] (w.forCall tape i)))
    (hl : laidOutB C.prog = true) (hr : (fn.params.toList.all fun t => C.prog.readableRec t && decide (t < C.prog.types.size)) = true) (hrt : fn.resultTypes = #[tb]) (htb : C.prog.underlying tb = some .bool) (hvars : s.vars = [])
    (hs : ∀ ds : List (DataW H), ds.length = fn.params.size → s.fn H ds = { results := [.lit (.bool true)], args := ds })
    (hop : ∀ w : World, OpensAll C.prog enc w fn.params.toList ps) (hev : ∀ avs, AllP ps avs → Ev C.prog f avs (.v (.bool true))) (hgt : ∀ (w : World) (args : Array Value), X w args → GOK w (Here w)) :
    ReturnsInHanded {} C os f .any (fun w args => (s.pre enc C.prog fn conds false w args ∧ X w args) ∧ sizedMet enc C.prog fn (OpenSpec.ofChange s) false w args) (s.post enc C.prog fn false fresh handsOn false) := by
  refine returnsInHanded_of_change_and (C := C) (X := X) hX own started noInit hfn witness ?_
  intro W base args ds gs before hval hW _ _ hL _
  obtain ⟨p, q, hA, hV, e, hfz, hnd⟩ := hW
  obtain ⟨avs, has, hrep⟩ := opens_args (hop W) hA (fun j t v hj hv => hval j t v (by simpa using hj) (by simpa using hv))
  have := (hev avs has avs _ ⟨rfl, rfl⟩).2 W (Here W) args.toList (fun b hb => hb) (hgt W args hL) hrep
  refine (this.mono ?_)
  rintro e' W' ⟨y, rfl, hx, Im', _, _, hR⟩
  obtain ⟨ob, h1, _⟩ := hR
  have hy : y = .bool true := by
    unfold R1 at h1
    cases h1.2 with | v => rfl
  subst hy
  exact ⟨_, rfl, post_true hl (fun t ht => by simpa using List.all_eq_true.1 hr t ht) hrt htb hvars hs ⟨p, q, hA, hV, e, hfz, hnd⟩ hx⟩
end Go.Vai
namespace Go.Proofs.YtgbcfpcjljhijaaDoor
open Go.Vai Go Go.Proofs Go.RowKit
open Nat (reduceEqDiff reduceMul reduceAdd reduceDiv reduceLeDiff)
open Int (reduceToNat reduceNe reduceEq reduceLT reduceLE)
theorem own3 : ownKnob Tryd.checked.prog.godebug = none := by kernel_rfl
theorem laidOut3 : laidOutB Tryd.checked.prog = true := by kernel_rfl
abbrev laid3 : List (String × DataW Unit) := [("dialtone/digest.round", Rows.laid_dialtone_digest_round)]
theorem gRound : Tryd.prog.globalNamed "dialtone/digest.round" = some 0 := by kernel_rfl
def roundL : List Int := (gtab.headD (0, [])).2.map fun v => match v with | .int _ n => n | _ => 0
theorem gtab_eq : gtab = [(0, roundL.map (Value.int .u32))] := by kernel_rfl
theorem laid_eq : (Rows.laid_dialtone_digest_round : DataW Unit) = .agg (roundL.map fun n => .lit (.int .u32 n)) := by kernel_rfl
theorem round_cells {W : World} (h : laidMetH Tryd.prog laid3 W) : ∀ (i : Nat) (v : Value), (roundL.map (Value.int .u32))[i]? = some v → W.cell? ⟨0, i, none⟩ = some v := by
  rw [MakeChecks.laidMetH_plain _ _ _ (by kernel_rfl)] at h
  obtain ⟨ps, ⟨g0, t0, cs0, f0, p0, q0, hg0, ht0, hv0, hd0, _, _⟩, _, _⟩ := h
  obtain rfl := Option.some.inj (gRound.symm.trans hg0)
  have tR : (Tryd.prog.globals[0]?).map (·.type) = some t0 := ht0
  intro i v hv
  rw [World.var?_cell hg0 hv0 i]
  have t79 : t0 = 176 := by
    have : (Tryd.prog.globals[0]?).map (·.type) = some 176 := by kernel_rfl
    exact Option.some.inj (tR.symm.trans this)
  subst t79
  obtain ⟨xs, m1, rfl, hx1, hlen, hn, hel⟩ := DataW.trod_array (n := 64) (e := 105) (by kernel_rfl) hd0
  have c1 : Tryd.prog.cellsOf 105 = 1 := by kernel_rfl
  simp only [Prod.mk.injEq] at hx1
  have hx := hx1.1
  rw [laid_eq] at hx
  simp only [DataW.agg.injEq] at hx
  have hrl : roundL.length = 64 := by kernel_rfl
  have hi : i < 64 := by
    have := (List.getElem?_eq_some_iff.1 hv).1
    rw [List.length_map, hrl] at this; exact this
  have h1 := hel i hi
  rw [c1, Nat.mul_one] at h1
  cases hxi : xs[i]? with
  | none => rw [List.getElem?_eq_none_iff] at hxi; omega
  | some x =>
    rw [hxi] at h1
    obtain ⟨n, e1, e2, _⟩ := DataW.trod_int (k := .u32) (by kernel_rfl) h1
    have h2 : (xs.map (·.1))[i]? = some x.1 := by rw [List.getElem?_map, hxi]; rfl
    rw [← hx, List.getElem?_map] at h2
    obtain ⟨r, hr, hr2⟩ := Option.map_eq_some_iff.1 h2
    rw [List.getElem?_map, hr] at hv
    have hv := Option.some.inj hv
    rw [e2] at hr2
    simp only [DataW.lit.injEq, Lit.int.injEq, true_and] at hr2
    have h3 : (cs0.toList.drop i)[0]? = some (.int .u32 n) := by
      have : ((cs0.toList.drop i).take 1)[0]? = some (.int .u32 n) := by rw [e1]; rfl
      rwa [List.getElem?_take, if_pos (by omega)] at this
    rw [List.getElem?_drop, Nat.add_zero] at h3
    rw [← Array.getElem?_toList, h3, ← hv, hr2]
theorem gok {W : World} (h : laidMetH Tryd.prog laid3 W) : GOK W (Here W) := by
  intro p hp
  rw [gtab_eq, List.mem_singleton] at hp
  subst hp
  have hc := round_cells h
  refine ⟨?_, fun i v hv => ⟨hc i v hv, ?_⟩⟩
  · have h0 : (roundL.map (Value.int .u32))[0]? = some (.int .u32 (gd roundL 0)) := by kernel_rfl
    have := hc 0 _ h0
    show 0 < W.heap.size
    rcases Nat.eq_zero_or_pos W.heap.size with h1 | h1
    · have : W.heap[0]? = none := Array.getElem?_eq_none (by omega)
      simp [World.cell?, this] at *
    · exact h1
  · obtain ⟨r, _, rfl⟩ := List.mem_map.1 (List.mem_of_getElem? hv)
    rfl
theorem door_met (os : Os) (args : Array Value) : laidMetH Tryd.prog laid3 ((World.doorLaid Tryd.prog 14 os).forCall (fun _ _ => 0) ⟨#[], args, []⟩).memory :=
  laidMetH_of_parts3 (fuel := 8) (laidMet_of_run' 8 (by kernel_rfl) (by kernel_rfl)) (by kernel_rfl) (by kernel_rfl)
section
variable {H : Type} {enc : TypeId × Value → H} {w : World}
def OI (a : AV) : Prop := ∃ n, R64 n ∧ a = I n
def OFi (a : AV) : Prop := ∃ x : Fiv, x.r ∧ a = FP x
def OFL (a : AV) : Prop := ∃ l : List Fiv, l.length ≤ 9223372036854775807 ∧ (∀ x ∈ l, x.r) ∧ a = FL l
theorem wf64 {n : Int} : (Lit.int .i64 n).wf = true ↔ R64 n := by
  have h1 : IntKind.i64.min = -9223372036854775808 := by decide
  have h2 : IntKind.i64.max = 9223372036854775807 := by decide
  simp [Lit.wf, R64, h1, h2]
theorem o_int {t : TypeId} (ht : Tryd.prog.underlying t = some (.int .i64)) : Opens Tryd.prog enc w t OI :=
  (opens_int ht).mono (fun a ⟨n, h, e⟩ => ⟨n, wf64.1 h, e⟩) fun a ⟨n, h, e⟩ => ⟨n, wf64.2 h, e⟩
theorem o_five : Opens Tryd.prog enc w 68 OFi :=
  (opens_array (T := Int) (q := R64) (f := I) (e := 3) (n := 5) (sz := 1) (by kernel_rfl) (by kernel_rfl) (by kernel_rfl) (o_int (by kernel_rfl))).mono
    (fun a ⟨l, h, h1, e⟩ => by
      match l, h with
      | [x, y, z, u, v], _ => exact ⟨⟨x, y, z, u, v⟩, ⟨h1 x (by simp), h1 y (by simp), h1 z (by simp), h1 u (by simp), h1 v (by simp)⟩, e⟩)
    fun a ⟨x, h, e⟩ => ⟨[x.a, x.b, x.c, x.d, x.e], rfl, by obtain ⟨h1, h2, h3, h4, h5⟩ := h; simp [h1, h2, h3, h4, h5], e⟩
theorem o_fives : Opens Tryd.prog enc w 22 OFL :=
  (opens_slice (T := Fiv) (q := Fiv.r) (f := FP) (e := 68) (sz := 5) (by kernel_rfl) (by kernel_rfl) (by decide) o_five).mono
    (fun a ⟨l, h, h1, e⟩ => ⟨l, h, h1, e⟩) fun a ⟨l, h, h1, e⟩ => ⟨l, h, h1, e⟩
end
end Go.Proofs.YtgbcfpcjljhijaaDoor

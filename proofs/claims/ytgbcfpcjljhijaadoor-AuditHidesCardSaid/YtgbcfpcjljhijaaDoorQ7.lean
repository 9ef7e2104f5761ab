/- Chapter 40, AuditHides: the sums and path of one house's account are the same whatever the others' lines say; and the path shows only digests of them. Conditions: the package variable digest.round reads as the program's text lays it (tied). -/
import Derived.Test.YtgbcfpcjljhijaaDoorKI
set_option linter.unusedVariables false
set_option linter.unusedSimpArgs false
set_option maxRecDepth 100000
namespace Go.Proofs.YtgbcfpcjljhijaaDoor
open Go.Vai Go Go.Proofs
open Nat (reduceEqDiff reduceMul reduceAdd reduceDiv reduceLeDiff)
open Int (reduceToNat reduceNe reduceEq reduceLT reduceLE)
theorem rowT_congr (K : ByteArray) {a b : List Ch} (h : ∀ n : Int, ofF a n = ofF b n) : ∀ k, rowT K a k = rowT K b k
  | 0 => by unfold rowT; exact List.map_congr_left fun n _ => by unfold leafK; rw [h]
  | k + 1 => by rw [rowT, rowT, rowT_congr K h k]
theorem pathT_congr (K : ByteArray) {a b : List Ch} (h : ∀ n : Int, ofF a n = ofF b n) (c : Nat) : pathT K a c = pathT K b c := by
  unfold pathT; exact List.map_congr_left fun k _ => by rw [rowT_congr K h]
def stripC (c : Ch) : Int × Int × Int × Int := (c.h, c.p, c.q, c.a)
theorem below_strip (j k i : Nat) : ∀ (l m : List Ch), l.map stripC = m.map stripC → sumJ j (belowF l k i) = sumJ j (belowF m k i)
  | [], [], _ => rfl
  | [], _ :: _, h => by cases h
  | _ :: _, [], h => by cases h
  | c :: l, d :: m, h => by
    simp only [List.map_cons, List.cons.injEq, stripC, Prod.mk.injEq] at h
    obtain ⟨⟨h1, h2, h3, h4⟩, h5⟩ := h
    have ih := below_strip j k i l m h5
    simp only [belowF, List.filter_cons, h1] at *
    have hc : ctr j c = ctr j d := by unfold ctr; rw [h2, h3, h4]
    split
    · rw [sumJ_cons, sumJ_cons, ih, hc]
    · exact ih
theorem path_strip (K : ByteArray) {l m : List Ch} (hl : ∀ c ∈ l, c.good) (hm : ∀ c ∈ m, c.good) (hln : l.length ≤ 60) (hmn : m.length ≤ 60) (h : l.map stripC = m.map stripC) (n : Nat) (hn : n < 64) (k : Nat) (hk : k < 6) :
    (gd (pathT K l n) k).1 = (gd (pathT K m n) k).1 := by
  have e : ∀ a : List Ch, gd (pathT K a n) k = gd (rowT K a k) (sibN (n / 2 ^ k)) := fun a => by unfold pathT gd; simp [hk]
  rw [e, e]
  have hs := (sib_lt hn hk).1
  have h1 := row_len8 K hl hln (k := k) (by omega) hs
  have h2 := row_len8 K hm hmn (k := k) (by omega) hs
  refine gd_ext (by rw [h1.1, h2.1]) fun j hj => ?_
  rw [h1.1] at hj
  rw [row_sum K hl hj k (by omega) _ hs, row_sum K hm hj k (by omega) _ hs, below_strip j k _ l m h]
def silC (x : List Int) (h : Int) (i : Nat) (c : Ch) : Ch := if c.h = h then c else if i < x.length then { c with t := strOfNums [pickF (gd x i) 256] } else c
def silF (x : List Int) (h : Int) (l : List Ch) (v : Nat) : List Ch := (List.range v).map fun i => silC x h i (gd l i)
theorem silF_succ (x : List Int) (h : Int) (l : List Ch) (v : Nat) : silF x h l (v + 1) = silF x h l v ++ [silC x h v (gd l v)] := by unfold silF; rw [List.range_succ, List.map_append]; rfl
theorem silF_length (x : List Int) (h : Int) (l : List Ch) (v : Nat) : (silF x h l v).length = v := by simp [silF]
theorem range_gd (l : List Ch) : (List.range l.length).map (fun i => gd l i) = l := by
  refine gd_ext (by simp) fun i hi => ?_
  simp at hi
  unfold gd; simp [hi]
theorem silC_h (x : List Int) (h : Int) (i : Nat) (c : Ch) : stripC (silC x h i c) = stripC c := by unfold silC; split; rfl; split <;> rfl
theorem silC_good (x : List Int) (h : Int) (i : Nat) (c : Ch) (hc : c.good) : (silC x h i c).good := by
  unfold silC
  split
  · exact hc
  · split
    · obtain ⟨⟨h1, h2, h3, h4, h5, h6, h7, h8, h9⟩, h10⟩ := hc
      exact ⟨⟨h1, h2, h3, h4, h5, h6, h7, h8, by show (strOfNums _).size ≤ 100; rw [strOfNums_size]; simp⟩, h10⟩
    · exact hc
theorem silF_strip (x : List Int) (h : Int) (l : List Ch) : (silF x h l l.length).map stripC = l.map stripC := by
  have := congrArg (List.map stripC) (range_gd l)
  rw [← this]
  unfold silF
  rw [List.map_map, List.map_map]
  exact List.map_congr_left fun i _ => silC_h x h i _
theorem silF_good (x : List Int) (h : Int) {l : List Ch} (hl : ∀ c ∈ l, c.good) : ∀ c ∈ silF x h l l.length, c.good := fun c hc => by
  obtain ⟨i, hi, rfl⟩ := List.mem_map.1 hc
  exact silC_good _ _ _ _ (hl _ (gd_mem l i (List.mem_range.1 hi)))
theorem silF_own (x : List Int) (h : Int) (l : List Ch) : ofF (silF x h l l.length) h = ofF l h := by
  have e : ofF ((List.range l.length).map fun i => gd l i) h = ofF l h := by rw [range_gd]
  rw [← e]
  unfold silF ofF
  rw [List.filter_map, List.filter_map]
  have hp : ∀ i, ((fun c : Ch => decide (c.h = h)) ∘ fun i => silC x h i (gd l i)) i = ((fun c : Ch => decide (c.h = h)) ∘ fun i => gd l i) i := fun i => by
    have := congrArg Prod.fst (silC_h x h i (gd l i))
    show decide ((silC x h i (gd l i)).h = h) = decide ((gd l i).h = h)
    rw [show (silC x h i (gd l i)).h = (gd l i).h from this]
  rw [show ((fun c : Ch => decide (c.h = h)) ∘ fun i => silC x h i (gd l i)) = ((fun c : Ch => decide (c.h = h)) ∘ fun i => gd l i) from funext hp]
  refine List.map_congr_left fun i hi => ?_
  have := (List.mem_filter.1 hi).2
  have hh : (gd l i).h = h := by simpa using this
  unfold silC; rw [if_pos hh]
def neF (l : List Ch) (h : Int) : List Ch := l.filter fun c => !decide (c.h = h)
theorem ofF_neF (l : List Ch) (h n : Int) : ofF (ofF l h ++ neF l h) n = ofF l n := by
  unfold ofF neF
  rw [List.filter_append, List.filter_filter, List.filter_filter]
  by_cases e : n = h
  · subst e
    have h1 : (l.filter fun c => decide (c.h = n) && decide (c.h = n)) = l.filter fun c => decide (c.h = n) := List.filter_congr fun c _ => by simp
    have h2 : (l.filter fun c => decide (c.h = n) && !decide (c.h = n)) = [] := by rw [List.filter_eq_nil_iff]; intro c _; simp
    rw [h1, h2, List.append_nil]
  · have h1 : (l.filter fun c => decide (c.h = n) && decide (c.h = h)) = [] := by rw [List.filter_eq_nil_iff]; intro c _; simp; intro h1 h2; exact e (h1.symm.trans h2)
    have h2 : (l.filter fun c => decide (c.h = n) && !decide (c.h = h)) = l.filter fun c => decide (c.h = n) := List.filter_congr fun c _ => by
      by_cases hc : c.h = n
      · simp [hc, e]
      · simp [hc]
    rw [h1, h2, List.nil_append]
theorem ofF_more (l m : List Ch) (h : Int) : ofF (ofF l h ++ neF m h) h = ofF l h := by
  unfold ofF neF
  rw [List.filter_append, List.filter_filter, List.filter_filter]
  have h1 : (l.filter fun c => decide (c.h = h) && decide (c.h = h)) = l.filter fun c => decide (c.h = h) := List.filter_congr fun c _ => by simp
  have h2 : (m.filter fun c => decide (c.h = h) && !decide (c.h = h)) = [] := by rw [List.filter_eq_nil_iff]; intro c _; simp
  rw [h1, h2, List.append_nil]
set_option maxHeartbeats 4000000 in
theorem hides_ev (key : Int) (x y : List Fiv) (cu : Int) (tx : List Int) (hk : R64 key) (hx : x.length ≤ 9223372036854775807) (hr : ∀ y ∈ x, y.r) (hy : y.length ≤ 9223372036854775807) (hyr : ∀ z ∈ y, z.r) (hcu : R64 cu) (htx : tx.length ≤ 9223372036854775807) (htr : ∀ n ∈ tx, R64 n) : Ev Tryd.prog 7 [I key, FL x, FL y, I cu, SL tx] (B true) := by
  have hm := made_ev key x hk hx hr
  have hok := made_ok key x
  have hg := madeF_good x
  have hl10 := madeF_len x
  have hks := madeK_size key
  have hpk := pick_ev cu 8 hcu (by omega)
  have hpb := pickF_in (c := cu) (n := 8) (by omega)
  obtain ⟨h, hh⟩ : ∃ h : Nat, pickF cu 8 = h := ⟨(pickF cu 8).toNat, by omega⟩
  rw [hh] at hpk
  have h63 : h < 64 := by omega
  generalize madeK key = K at *
  generalize madeF x = l at *
  refine ev_ofB [9] Tryd.func7 rfl (by kernel_rfl) mo (Nat.le_of_ble_eq_true rfl) ?_
  simp -implicitDefEqProofs (disch := omega) only [go_sem, ↓reduceIte, reduceEqDiff, reduceMul, reduceAdd, reduceDiv, Nat.reduceBEq, reduceLeDiff, reduceToNat, reduceNe, reduceEq, reduceLT, reduceLE, Int.reduceBEq, Int.reduceBNe, Tryd.ntmps7]
  refine callC_at sane_ev ?_
  simp -implicitDefEqProofs (disch := omega) only [go_sem, ↓reduceIte, reduceEqDiff, reduceMul, reduceAdd, reduceDiv, Nat.reduceBEq, reduceLeDiff, reduceToNat, reduceNe, reduceEq, reduceLT, reduceLE, Int.reduceBEq, Int.reduceBNe]
  refine callC_at hm ?_
  simp -implicitDefEqProofs (disch := omega) only [go_sem, ↓reduceIte, reduceEqDiff, reduceMul, reduceAdd, reduceDiv, Nat.reduceBEq, reduceLeDiff, reduceToNat, reduceNe, reduceEq, reduceLT, reduceLE, Int.reduceBEq, Int.reduceBNe]
  refine callC_at hpk ?_
  simp -implicitDefEqProofs (disch := omega) only [go_sem, ↓reduceIte, reduceEqDiff, reduceMul, reduceAdd, reduceDiv, Nat.reduceBEq, reduceLeDiff, reduceToNat, reduceNe, reduceEq, reduceLT, reduceLE, Int.reduceBEq, Int.reduceBNe]
  refine nilOwn_C 16777440 16777441 0 1 30 5 (k := ⟨26, 2, [.agg [Str K, .v (.slice none 0 0)]]⟩) (el := .agg [Str K, .v (.slice none 0 0)]) (by simp -implicitDefEqProofs (disch := omega) only [go_sem, ↓reduceIte, reduceEqDiff, reduceMul, reduceAdd, reduceDiv, Nat.reduceBEq, reduceLeDiff, reduceToNat, reduceNe, reduceEq, reduceLT, reduceLE, Int.reduceBEq, Int.reduceBNe]) (by decide) rfl rfl (by simp) (by simp -implicitDefEqProofs (disch := omega) only [go_sem, ↓reduceIte, reduceEqDiff, reduceMul, reduceAdd, reduceDiv, Nat.reduceBEq, reduceLeDiff, reduceToNat, reduceNe, reduceEq, reduceLT, reduceLE, Int.reduceBEq, Int.reduceBNe]) rfl ?_
  refine nilOwn_C 16777456 16777457 0 1 30 5 (k := ⟨26, 2, [.agg [Str K, .v (.slice none 0 0)]]⟩) (el := .agg [Str K, .v (.slice none 0 0)]) (by simp -implicitDefEqProofs (disch := omega) only [go_sem, ↓reduceIte, reduceEqDiff, reduceMul, reduceAdd, reduceDiv, Nat.reduceBEq, reduceLeDiff, reduceToNat, reduceNe, reduceEq, reduceLT, reduceLE, Int.reduceBEq, Int.reduceBNe]) (by decide) rfl rfl (by simp) (by simp -implicitDefEqProofs (disch := omega) only [go_sem, ↓reduceIte, reduceEqDiff, reduceMul, reduceAdd, reduceDiv, Nat.reduceBEq, reduceLeDiff, reduceToNat, reduceNe, reduceEq, reduceLT, reduceLE, Int.reduceBEq, Int.reduceBNe]) rfl ?_
  refine nilOwn_C 16777472 16777473 0 1 30 5 (k := ⟨26, 2, [.agg [Str K, .v (.slice none 0 0)]]⟩) (el := .agg [Str K, .v (.slice none 0 0)]) (by simp -implicitDefEqProofs (disch := omega) only [go_sem, ↓reduceIte, reduceEqDiff, reduceMul, reduceAdd, reduceDiv, Nat.reduceBEq, reduceLeDiff, reduceToNat, reduceNe, reduceEq, reduceLT, reduceLE, Int.reduceBEq, Int.reduceBNe]) (by decide) rfl rfl (by simp) (by simp -implicitDefEqProofs (disch := omega) only [go_sem, ↓reduceIte, reduceEqDiff, reduceMul, reduceAdd, reduceDiv, Nat.reduceBEq, reduceLeDiff, reduceToNat, reduceNe, reduceEq, reduceLT, reduceLE, Int.reduceBEq, Int.reduceBNe]) rfl ?_
  refine reg_mk Plain.mono ?_
  simp -implicitDefEqProofs (disch := omega) only [go_sem, ↓reduceIte, reduceEqDiff, reduceMul, reduceAdd, reduceDiv, Nat.reduceBEq, reduceLeDiff, reduceToNat, reduceNe, reduceEq, reduceLT, reduceLE, Int.reduceBEq, Int.reduceBNe]
  refine loopC_mk (fun n E σ => ∃ v : Nat, v + n = l.length ∧ E 18 = I v ∧ E 2 = FL y ∧ E 4 = SL tx ∧ E 11 = B true ∧ E 12 = .ptr 16777408 2 0 0 ∧ E 13 = I h ∧ E 14 = .ptr 16777440 2 0 0 ∧ E 15 = .ptr 16777456 2 0 0 ∧ E 16 = .ptr 16777472 2 0 0 ∧ σ 16777408 = some ⟨26, 2, [LP K l]⟩ ∧ σ 16777440 = some ⟨26, 2, [.agg [Str K, .own 16777441 5 0 (ofF (l.take v) h).length]]⟩ ∧ σ 16777441 = some ⟨30, 5, (ofF (l.take v) h).map CH⟩ ∧ σ 16777456 = some ⟨26, 2, [.agg [Str K, .own 16777457 5 0 (ofF (l.take v) h).length]]⟩ ∧ σ 16777457 = some ⟨30, 5, (ofF (l.take v) h).map CH⟩ ∧ σ 16777472 = some ⟨26, 2, [.agg [Str K, .own 16777473 5 0 (silF tx h l v).length]]⟩ ∧ σ 16777473 = some ⟨30, 5, (silF tx h l v).map CH⟩ ∧ E 17 = .own 16777488 5 0 (neF (l.take v) h).length ∧ σ 16777488 = some ⟨30, 5, (neF (l.take v) h).map CH⟩) l.length ⟨0, by omega, ?_⟩ ?_
  · simp -implicitDefEqProofs (disch := omega) only [go_sem, ↓reduceIte, reduceEqDiff, reduceMul, reduceAdd, reduceDiv, Nat.reduceBEq, reduceLeDiff, reduceToNat, reduceNe, reduceEq, reduceLT, reduceLE, Int.reduceBEq, Int.reduceBNe]
    repeat' apply And.intro
    all_goals rfl
  rintro n E σ ⟨v, hv, e18, e2, e4, e11, e12, e13, e14, e15, e16, s12, s14, t14, s15, t15, s16, t16, e17, t17⟩
  have b1 : (ofF (l.take v) h).length ≤ 10 := by have := ofF_len (l.take v) h; rw [List.length_take] at this; omega
  have b2 : (silF tx h l v).length = v := silF_length tx h l v
  have b3 : (neF (l.take v) h).length ≤ 10 := by have : (neF (l.take v) h).length ≤ (l.take v).length := List.length_filter_le ..; rw [List.length_take] at this; omega
  simp -implicitDefEqProofs (disch := omega) only [go_sem, ↓reduceIte, reduceEqDiff, reduceMul, reduceAdd, reduceDiv, Nat.reduceBEq, reduceLeDiff, reduceToNat, reduceNe, reduceEq, reduceLT, reduceLE, Int.reduceBEq, Int.reduceBNe, e18, e2, e4, e11, e12, e13, e14, e15, e16, s12, s14, t14, s15, t15, s16, t16, e17, t17]
  refine branch_mk (fun hc => ?_) (fun hc => ?_)
  · have htk : l.take (v + 1) = l.take v ++ [gd l v] := by rw [List.take_add_one, gd_some l v (by omega)]; rfl
    have hsu := silF_succ tx h l v
    simp -implicitDefEqProofs (disch := omega) only [go_sem, ↓reduceIte, reduceEqDiff, reduceMul, reduceAdd, reduceDiv, Nat.reduceBEq, reduceLeDiff, reduceToNat, reduceNe, reduceEq, reduceLT, reduceLE, Int.reduceBEq, Int.reduceBNe, e18, e2, e4, e11, e12, e13, e14, e15, e16, s12, s14, t14, s15, t15, s16, t16, e17, t17]
    refine branch_join (fun E σ => E 18 = I v ∧ E 19 = .ptr 16777520 5 0 0 ∧ σ 16777520 = some ⟨30, 5, [CH (silC tx h v (gd l v))]⟩ ∧ E 2 = FL y ∧ E 4 = SL tx ∧ E 11 = B true ∧ E 12 = .ptr 16777408 2 0 0 ∧ E 13 = I h ∧ E 14 = .ptr 16777440 2 0 0 ∧ E 15 = .ptr 16777456 2 0 0 ∧ E 16 = .ptr 16777472 2 0 0 ∧ σ 16777408 = some ⟨26, 2, [LP K l]⟩ ∧ σ 16777440 = some ⟨26, 2, [.agg [Str K, .own 16777441 5 0 (ofF (l.take (v + 1)) h).length]]⟩ ∧ σ 16777441 = some ⟨30, 5, (ofF (l.take (v + 1)) h).map CH⟩ ∧ σ 16777456 = some ⟨26, 2, [.agg [Str K, .own 16777457 5 0 (ofF (l.take (v + 1)) h).length]]⟩ ∧ σ 16777457 = some ⟨30, 5, (ofF (l.take (v + 1)) h).map CH⟩ ∧ σ 16777472 = some ⟨26, 2, [.agg [Str K, .own 16777473 5 0 (silF tx h l v).length]]⟩ ∧ σ 16777473 = some ⟨30, 5, (silF tx h l v).map CH⟩ ∧ E 17 = .own 16777488 5 0 (neF (l.take (v + 1)) h).length ∧ σ 16777488 = some ⟨30, 5, (neF (l.take (v + 1)) h).map CH⟩) (fun hd => ?_) (fun hd => ?_) ?_
    · have h1 : ofF (l.take (v + 1)) h = ofF (l.take v) h ++ [gd l v] := by rw [htk]; simp [ofF, hd]
      have h2 : neF (l.take (v + 1)) h = neF (l.take v) h := by rw [htk]; simp [neF, hd]
      have h3 : silC tx h v (gd l v) = gd l v := by unfold silC; rw [if_pos hd]
      rw [h1, h2, h3]
      simp -implicitDefEqProofs (disch := omega) only [go_sem, ↓reduceIte, reduceEqDiff, reduceMul, reduceAdd, reduceDiv, Nat.reduceBEq, reduceLeDiff, reduceToNat, reduceNe, reduceEq, reduceLT, reduceLE, Int.reduceBEq, Int.reduceBNe, e18, e2, e4, e11, e12, e13, e14, e15, e16, s12, s14, t14, s15, t15, s16, t16, e17, t17, List.take_length, and_self]
    · have h1 : ofF (l.take (v + 1)) h = ofF (l.take v) h := by rw [htk]; simp [ofF, hd]
      have h2 : neF (l.take (v + 1)) h = neF (l.take v) h ++ [gd l v] := by rw [htk]; simp [neF, hd]
      rw [h1, h2]
      simp -implicitDefEqProofs (disch := omega) only [go_sem, ↓reduceIte, reduceEqDiff, reduceMul, reduceAdd, reduceDiv, Nat.reduceBEq, reduceLeDiff, reduceToNat, reduceNe, reduceEq, reduceLT, reduceLE, Int.reduceBEq, Int.reduceBNe, e18, e2, e4, e11, e12, e13, e14, e15, e16, s12, s14, t14, s15, t15, s16, t16, e17, t17, List.take_length, and_self]
      refine branch_mk (fun ht => ?_) (fun ht => ?_)
      · have h3 : silC tx h v (gd l v) = { gd l v with t := strOfNums [pickF (gd tx v) 256] } := by unfold silC; rw [if_neg hd, if_pos (by omega)]
        rw [h3]
        have hp1 := pick_ev (gd tx v) 256 (htr _ (gd_mem tx v (by omega))) (by omega)
        have hp2 := pickF_in (c := gd tx v) (n := 256) (by omega)
        generalize pickF (gd tx v) 256 = b at *
        have hw8 : IntKind.u8.wrap b = b := by simp [IntKind.wrap, IntKind.bits, IntKind.signed]; omega
        simp -implicitDefEqProofs (disch := omega) only [go_sem, ↓reduceIte, reduceEqDiff, reduceMul, reduceAdd, reduceDiv, Nat.reduceBEq, reduceLeDiff, reduceToNat, reduceNe, reduceEq, reduceLT, reduceLE, Int.reduceBEq, Int.reduceBNe, e18, e2, e4, e11, e12, e13, e14, e15, e16, s12, s14, t14, s15, t15, s16, t16, e17, t17, List.take_length, and_self]
        refine callC_at hp1 ?_
        simp -implicitDefEqProofs (disch := omega) only [go_sem, ↓reduceIte, reduceEqDiff, reduceMul, reduceAdd, reduceDiv, Nat.reduceBEq, reduceLeDiff, reduceToNat, reduceNe, reduceEq, reduceLT, reduceLE, Int.reduceBEq, Int.reduceBNe, e18, e2, e4, e11, e12, e13, e14, e15, e16, s12, s14, t14, s15, t15, s16, t16, e17, t17, List.take_length, and_self, hw8]
        refine toStr_mk [b] (by simp -implicitDefEqProofs (disch := omega) only [go_sem, ↓reduceIte, reduceEqDiff, reduceMul, reduceAdd, reduceDiv, Nat.reduceBEq, reduceLeDiff, reduceToNat, reduceNe, reduceEq, reduceLT, reduceLE, Int.reduceBEq, Int.reduceBNe]) (by intro b; simp -implicitDefEqProofs (disch := omega) only [go_sem, ↓reduceIte, reduceEqDiff, reduceMul, reduceAdd, reduceDiv, Nat.reduceBEq, reduceLeDiff, reduceToNat, reduceNe, reduceEq, reduceLT, reduceLE, Int.reduceBEq, Int.reduceBNe]; intro e; cases e) (e := 5) rfl rfl rfl ?_
        simp -implicitDefEqProofs (disch := omega) only [go_sem, ↓reduceIte, reduceEqDiff, reduceMul, reduceAdd, reduceDiv, Nat.reduceBEq, reduceLeDiff, reduceToNat, reduceNe, reduceEq, reduceLT, reduceLE, Int.reduceBEq, Int.reduceBNe, e18, e2, e4, e11, e12, e13, e14, e15, e16, s12, s14, t14, s15, t15, s16, t16, e17, t17, List.take_length, and_self]
      · have h3 : silC tx h v (gd l v) = gd l v := by unfold silC; rw [if_neg hd, if_neg (by omega)]
        rw [h3]
        simp -implicitDefEqProofs (disch := omega) only [go_sem, ↓reduceIte, reduceEqDiff, reduceMul, reduceAdd, reduceDiv, Nat.reduceBEq, reduceLeDiff, reduceToNat, reduceNe, reduceEq, reduceLT, reduceLE, Int.reduceBEq, Int.reduceBNe, e18, e2, e4, e11, e12, e13, e14, e15, e16, s12, s14, t14, s15, t15, s16, t16, e17, t17, List.take_length, and_self]
    clear e18 e2 e4 e11 e12 e13 e14 e15 e16 s12 s14 t14 s15 t15 s16 t16 e17 t17 E σ
    rintro E σ ⟨e18, e19, s19, e2, e4, e11, e12, e13, e14, e15, e16, s12, s14, t14, s15, t15, s16, t16, e17, t17⟩
    simp -implicitDefEqProofs (disch := omega) only [go_sem, ↓reduceIte, reduceEqDiff, reduceMul, reduceAdd, reduceDiv, Nat.reduceBEq, reduceLeDiff, reduceToNat, reduceNe, reduceEq, reduceLT, reduceLE, Int.reduceBEq, Int.reduceBNe, e18, e19, s19, e2, e4, e11, e12, e13, e14, e15, e16, s12, s14, t14, s15, t15, s16, t16, e17, t17, List.take_length, and_self]
    refine againQ_mk (n - 1) (by omega) ⟨v + 1, by omega, ?_⟩
    rw [hsu]
    simp -implicitDefEqProofs (disch := omega) only [go_sem, ↓reduceIte, reduceEqDiff, reduceMul, reduceAdd, reduceDiv, Nat.reduceBEq, reduceLeDiff, reduceToNat, reduceNe, reduceEq, reduceLT, reduceLE, Int.reduceBEq, Int.reduceBNe, e18, e19, s19, e2, e4, e11, e12, e13, e14, e15, e16, s12, s14, t14, s15, t15, s16, t16, e17, t17, List.take_length, and_self]
    simp
  obtain rfl : v = l.length := by omega
  rw [List.take_length] at *
  simp -implicitDefEqProofs (disch := omega) only [go_sem, ↓reduceIte, reduceEqDiff, reduceMul, reduceAdd, reduceDiv, Nat.reduceBEq, reduceLeDiff, reduceToNat, reduceNe, reduceEq, reduceLT, reduceLE, Int.reduceBEq, Int.reduceBNe, e18, e2, e4, e11, e12, e13, e14, e15, e16, s12, s14, t14, s15, t15, s16, t16, e17, t17]
  refine loop_join 2 (fun E σ => E 2 = FL y ∧ E 4 = SL tx ∧ E 11 = B true ∧ E 12 = .ptr 16777408 2 0 0 ∧ E 13 = I h ∧ E 14 = .ptr 16777440 2 0 0 ∧ E 15 = .ptr 16777456 2 0 0 ∧ E 16 = .ptr 16777472 2 0 0 ∧ σ 16777408 = some ⟨26, 2, [LP K l]⟩ ∧ σ 16777440 = some ⟨26, 2, [.agg [Str K, .own 16777441 5 0 (ofF l h ++ neF (madeF y) h).length]]⟩ ∧ σ 16777441 = some ⟨30, 5, (ofF l h ++ neF (madeF y) h).map CH⟩ ∧ σ 16777456 = some ⟨26, 2, [.agg [Str K, .own 16777457 5 0 (ofF l h).length]]⟩ ∧ σ 16777457 = some ⟨30, 5, (ofF l h).map CH⟩ ∧ σ 16777472 = some ⟨26, 2, [.agg [Str K, .own 16777473 5 0 (silF tx h l l.length).length]]⟩ ∧ σ 16777473 = some ⟨30, 5, (silF tx h l l.length).map CH⟩ ∧ E 17 = .own 16777488 5 0 (neF l h).length ∧ σ 16777488 = some ⟨30, 5, (neF l h).map CH⟩) ?_ ?_
  · refine loopC_mk (fun n E σ => ∃ w : Nat, w + n = min y.length 10 ∧ E 20 = I w ∧ E 2 = FL y ∧ E 4 = SL tx ∧ E 11 = B true ∧ E 12 = .ptr 16777408 2 0 0 ∧ E 13 = I h ∧ E 14 = .ptr 16777440 2 0 0 ∧ E 15 = .ptr 16777456 2 0 0 ∧ E 16 = .ptr 16777472 2 0 0 ∧ σ 16777408 = some ⟨26, 2, [LP K l]⟩ ∧ σ 16777440 = some ⟨26, 2, [.agg [Str K, .own 16777441 5 0 (ofF l h ++ neF ((y.take w).map oneF) h).length]]⟩ ∧ σ 16777441 = some ⟨30, 5, (ofF l h ++ neF ((y.take w).map oneF) h).map CH⟩ ∧ σ 16777456 = some ⟨26, 2, [.agg [Str K, .own 16777457 5 0 (ofF l h).length]]⟩ ∧ σ 16777457 = some ⟨30, 5, (ofF l h).map CH⟩ ∧ σ 16777472 = some ⟨26, 2, [.agg [Str K, .own 16777473 5 0 (silF tx h l l.length).length]]⟩ ∧ σ 16777473 = some ⟨30, 5, (silF tx h l l.length).map CH⟩ ∧ E 17 = .own 16777488 5 0 (neF l h).length ∧ σ 16777488 = some ⟨30, 5, (neF l h).map CH⟩) (min y.length 10) ⟨0, by omega, ?_⟩ ?_
    · simp -implicitDefEqProofs (disch := omega) only [go_sem, ↓reduceIte, reduceEqDiff, reduceMul, reduceAdd, reduceDiv, Nat.reduceBEq, reduceLeDiff, reduceToNat, reduceNe, reduceEq, reduceLT, reduceLE, Int.reduceBEq, Int.reduceBNe, e18, e2, e4, e11, e12, e13, e14, e15, e16, s12, s14, t14, s15, t15, s16, t16, e17, t17]
      simp [neF]
    clear e18 e2 e4 e11 e12 e13 e14 e15 e16 s12 s14 t14 s15 t15 s16 t16 e17 t17 hc E σ
    rintro m E σ ⟨w, hw, e20, e2, e4, e11, e12, e13, e14, e15, e16, s12, s14, t14, s15, t15, s16, t16, e17, t17⟩
    have b4 : (ofF l h ++ neF ((y.take w).map oneF) h).length ≤ 20 := by
      rw [List.length_append]
      have : (neF ((y.take w).map oneF) h).length ≤ ((y.take w).map oneF).length := List.length_filter_le ..
      have h2 : ((y.take w).map oneF).length ≤ 10 := by rw [List.length_map, List.length_take]; omega
      omega
    simp -implicitDefEqProofs (disch := omega) only [go_sem, ↓reduceIte, reduceEqDiff, reduceMul, reduceAdd, reduceDiv, Nat.reduceBEq, reduceLeDiff, reduceToNat, reduceNe, reduceEq, reduceLT, reduceLE, Int.reduceBEq, Int.reduceBNe, e20, e2, e4, e11, e12, e13, e14, e15, e16, s12, s14, t14, s15, t15, s16, t16, e17, t17]
    refine branch_mk (fun hc => ?_) (fun hc => ?_)
    · simp -implicitDefEqProofs (disch := omega) only [go_sem, ↓reduceIte, reduceEqDiff, reduceMul, reduceAdd, reduceDiv, Nat.reduceBEq, reduceLeDiff, reduceToNat, reduceNe, reduceEq, reduceLT, reduceLE, Int.reduceBEq, Int.reduceBNe, e20, e2, e4, e11, e12, e13, e14, e15, e16, s12, s14, t14, s15, t15, s16, t16, e17, t17]
      refine branch_mk (fun hc2 => ?_) (fun hc2 => ?_)
      · have htk : (y.take (w + 1)).map oneF = (y.take w).map oneF ++ [oneF (gd y w)] := by rw [List.take_add_one, gd_some y w (by omega)]; simp
        have ho := one_ev (gd y w) (hyr _ (gd_mem y w (by omega)))
        simp -implicitDefEqProofs (disch := omega) only [go_sem, ↓reduceIte, reduceEqDiff, reduceMul, reduceAdd, reduceDiv, Nat.reduceBEq, reduceLeDiff, reduceToNat, reduceNe, reduceEq, reduceLT, reduceLE, Int.reduceBEq, Int.reduceBNe, e20, e2, e4, e11, e12, e13, e14, e15, e16, s12, s14, t14, s15, t15, s16, t16, e17, t17]
        refine callC_at ho ?_
        generalize oneF (gd y w) = c at *
        generalize (y.take w).map oneF = q at *
        simp -implicitDefEqProofs (disch := omega) only [go_sem, ↓reduceIte, reduceEqDiff, reduceMul, reduceAdd, reduceDiv, Nat.reduceBEq, reduceLeDiff, reduceToNat, reduceNe, reduceEq, reduceLT, reduceLE, Int.reduceBEq, Int.reduceBNe, e20, e2, e4, e11, e12, e13, e14, e15, e16, s12, s14, t14, s15, t15, s16, t16, e17, t17]
        refine branch_mk (fun hd => ?_) (fun hd => ?_)
        · have h2 : ofF l h ++ neF ((y.take (w + 1)).map oneF) h = (ofF l h ++ neF q h) ++ [c] := by rw [htk]; simp [neF, hd]
          generalize ofF l h ++ neF q h = qq at *
          simp -implicitDefEqProofs (disch := omega) only [go_sem, ↓reduceIte, reduceEqDiff, reduceMul, reduceAdd, reduceDiv, Nat.reduceBEq, reduceLeDiff, reduceToNat, reduceNe, reduceEq, reduceLT, reduceLE, Int.reduceBEq, Int.reduceBNe, e20, e2, e4, e11, e12, e13, e14, e15, e16, s12, s14, t14, s15, t15, s16, t16, e17, t17, List.take_length]
          refine againQ_mk (m - 1) (by omega) ⟨w + 1, by omega, ?_⟩
          have h3 := congrArg List.length h2
          rw [List.map_take] at h3
          simp only [List.length_append, List.length_singleton] at h3
          rw [h2]
          simp -implicitDefEqProofs (disch := omega) only [go_sem, ↓reduceIte, reduceEqDiff, reduceMul, reduceAdd, reduceDiv, Nat.reduceBEq, reduceLeDiff, reduceToNat, reduceNe, reduceEq, reduceLT, reduceLE, Int.reduceBEq, Int.reduceBNe, e20, e2, e4, e11, e12, e13, e14, e15, e16, s12, s14, t14, s15, t15, s16, t16, e17, t17, List.take_length, and_self]
          simp
          try omega
        · have hd : c.h = h := by omega
          have h2 : ofF l h ++ neF ((y.take (w + 1)).map oneF) h = ofF l h ++ neF q h := by rw [htk]; simp [neF, hd]
          simp -implicitDefEqProofs (disch := omega) only [go_sem, ↓reduceIte, reduceEqDiff, reduceMul, reduceAdd, reduceDiv, Nat.reduceBEq, reduceLeDiff, reduceToNat, reduceNe, reduceEq, reduceLT, reduceLE, Int.reduceBEq, Int.reduceBNe, e20, e2, e4, e11, e12, e13, e14, e15, e16, s12, s14, t14, s15, t15, s16, t16, e17, t17]
          refine againQ_mk (m - 1) (by omega) ⟨w + 1, by omega, ?_⟩
          have h3 := congrArg List.length h2
          rw [List.map_take] at h3
          simp only [List.length_append] at h3
          rw [h2]
          simp -implicitDefEqProofs (disch := omega) only [go_sem, ↓reduceIte, reduceEqDiff, reduceMul, reduceAdd, reduceDiv, Nat.reduceBEq, reduceLeDiff, reduceToNat, reduceNe, reduceEq, reduceLT, reduceLE, Int.reduceBEq, Int.reduceBNe, e20, e2, e4, e11, e12, e13, e14, e15, e16, s12, s14, t14, s15, t15, s16, t16, e17, t17, and_self]
          simp
          try omega
      · have fin : (y.take w).map oneF = madeF y := by unfold madeF; rw [show w = 10 by omega]
        rw [fin] at s14 t14
        simp -implicitDefEqProofs (disch := omega) only [go_sem, ↓reduceIte, reduceEqDiff, reduceMul, reduceAdd, reduceDiv, Nat.reduceBEq, reduceLeDiff, reduceToNat, reduceNe, reduceEq, reduceLT, reduceLE, Int.reduceBEq, Int.reduceBNe, e20, e2, e4, e11, e12, e13, e14, e15, e16, s12, s14, t14, s15, t15, s16, t16, e17, t17]
    · have fin : (y.take w).map oneF = madeF y := by unfold madeF; rw [List.take_of_length_le (by omega), List.take_of_length_le (by omega)]
      rw [fin] at s14 t14
      simp -implicitDefEqProofs (disch := omega) only [go_sem, ↓reduceIte, reduceEqDiff, reduceMul, reduceAdd, reduceDiv, Nat.reduceBEq, reduceLeDiff, reduceToNat, reduceNe, reduceEq, reduceLT, reduceLE, Int.reduceBEq, Int.reduceBNe, e20, e2, e4, e11, e12, e13, e14, e15, e16, s12, s14, t14, s15, t15, s16, t16, e17, t17]
  clear e18 e2 e4 e11 e12 e13 e14 e15 e16 s12 s14 t14 s15 t15 s16 t16 e17 t17 hc E σ
  rintro E σ ⟨e2, e4, e11, e12, e13, e14, e15, e16, s12, s14, t14, s15, t15, s16, t16, e17, t17⟩
  have b5 : (neF (madeF y) h).length ≤ 10 := by
    have h1 : (neF (madeF y) h).length ≤ (madeF y).length := List.length_filter_le ..
    have := madeF_len y; omega
  have hgm : ∀ c ∈ ofF l h ++ neF (madeF y) h, c.good := fun c hc => by
    rcases List.mem_append.1 hc with h1 | h1
    · exact filter_good hg _ c h1
    · exact filter_good (madeF_good y) _ c h1
  have hgs : ∀ c ∈ ofF l h ++ neF l h, c.good := fun c hc => by
    rcases List.mem_append.1 hc with h1 | h1
    · exact filter_good hg _ c h1
    · exact filter_good hg _ c h1
  have okm : ledOK K (ofF l h ++ neF (madeF y) h) = true := by simp only [ledOK, hks, decide_true, Bool.true_and]; exact good_chsOK (by rw [List.length_append]; omega) hgm
  have oks : ledOK K (ofF l h ++ neF l h) = true := by simp only [ledOK, hks, decide_true, Bool.true_and]; exact good_chsOK (by rw [List.length_append]; omega) hgs
  have okd : ledOK K (silF tx h l l.length) = true := by simp only [ledOK, hks, decide_true, Bool.true_and]; exact good_chsOK (by omega) (silF_good tx h hg)
  have a1 := accOK_ev K l h (by omega) hok h63
  have a2 := accOK_ev K _ h (by rw [List.length_append]; omega) okm h63
  have a3 := accOK_ev K _ h (by rw [List.length_append]; omega) oks h63
  have a4 := accOK_ev K _ h (by omega) okd h63
  have o2 : (ownA K (ofF l h ++ neF (madeF y) h) h).l = (ownA K l h).l := ofF_more l (madeF y) h
  have o3 : (ownA K (ofF l h ++ neF l h) h).l = (ownA K l h).l := ofF_neF l h h
  have o3p : (ownA K (ofF l h ++ neF l h) h).p = (ownA K l h).p := pathT_congr K (ofF_neF l h) h
  have o4 : (ownA K (silF tx h l l.length) h).l = (ownA K l h).l := silF_own tx h l
  have o4p : ∀ k, k < 6 → (gd (ownA K l h).p k).1 = (gd (ownA K (silF tx h l l.length) h).p k).1 := fun k hk => path_strip K hg (silF_good tx h hg) (by omega) (by omega) (silF_strip tx h l).symm h h63 k hk
  have p1 : (ownA K l h).p.length = 6 := by simp [ownA, pathT]
  have p4 : (ownA K (silF tx h l l.length) h).p.length = 6 := by simp [ownA, pathT]
  have pt : ∀ t ∈ (ownA K l h).p, t.1.length ≤ 9223372036854775807 := fun t ht => by
    have := (accOK_iff (own_ok K hg (by omega) h h63)).2.2.2.2.2 t ht
    have := this.1; omega
  have pt4 : ∀ t ∈ (ownA K (silF tx h l l.length) h).p, t.1.length ≤ 9223372036854775807 := fun t ht => by
    have := (accOK_iff (own_ok K (silF_good tx h hg) (by omega) h h63)).2.2.2.2.2 t ht
    have := this.1; omega
  have ol : (ownA K l h).l.length ≤ 10 := Nat.le_trans (ofF_len l h) hl10
  have q2 : (ownA K (ofF l h ++ neF (madeF y) h) h).s = (ownA K l h).s := rfl
  have q3 : (ownA K (ofF l h ++ neF l h) h).s = (ownA K l h).s := rfl
  have q4 : (ownA K (silF tx h l l.length) h).s = (ownA K l h).s := rfl
  have r2 : (ownA K (ofF l h ++ neF (madeF y) h) h).h = (ownA K l h).h := rfl
  have r3 : (ownA K (ofF l h ++ neF l h) h).h = (ownA K l h).h := rfl
  have r4 : (ownA K (silF tx h l l.length) h).h = (ownA K l h).h := rfl
  generalize ownA K (ofF l h ++ neF (madeF y) h) h = u2 at *
  generalize ownA K (ofF l h ++ neF l h) h = u3 at *
  generalize ownA K (silF tx h l l.length) h = u4 at *
  generalize ownA K l h = u1 at *
  obtain ⟨h1, l1, c1, p1'⟩ := u1
  obtain ⟨h2, l2, c2, p2'⟩ := u2
  obtain ⟨h3, l3, c3, p3'⟩ := u3
  obtain ⟨h4, l4, c4, p4'⟩ := u4
  simp only at o2 o3 o3p o4 o4p p1 p4 pt pt4 ol q2 q3 q4 r2 r3 r4
  subst o2 o3 o3p o4 q2 q3 q4 r2 r3 r4
  generalize ofF l h ++ neF (madeF y) h = lm at *
  generalize silF tx h l l.length = ls at *
  generalize ofF l h = lo at *
  generalize neF l h = ln at *
  have hlt : (lo ++ ln).take (lo.length + ln.length) = lo ++ ln := List.take_of_length_le (by simp)
  simp -implicitDefEqProofs (disch := omega) only [go_sem, ↓reduceIte, reduceEqDiff, reduceMul, reduceAdd, reduceDiv, Nat.reduceBEq, reduceLeDiff, reduceToNat, reduceNe, reduceEq, reduceLT, reduceLE, Int.reduceBEq, Int.reduceBNe, e2, e4, e11, e12, e13, e14, e15, e16, s12, s14, t14, s15, t15, s16, t16, e17, t17, List.take_length, hlt, and_self]
  refine callC_at a1 ?_
  simp -implicitDefEqProofs (disch := omega) only [go_sem, ↓reduceIte, reduceEqDiff, reduceMul, reduceAdd, reduceDiv, Nat.reduceBEq, reduceLeDiff, reduceToNat, reduceNe, reduceEq, reduceLT, reduceLE, Int.reduceBEq, Int.reduceBNe, e2, e4, e11, e12, e13, e14, e15, e16, s12, s14, t14, s15, t15, s16, t16, e17, t17, List.take_length, hlt, and_self]
  refine callC_sem rfl ?_
  refine freeze_op [16777441, 16777457, 16777473] ?_
  simp -implicitDefEqProofs (disch := omega) only [go_sem, ↓reduceIte, reduceEqDiff, reduceMul, reduceAdd, reduceDiv, Nat.reduceBEq, reduceLeDiff, reduceToNat, reduceNe, reduceEq, reduceLT, reduceLE, Int.reduceBEq, Int.reduceBNe, e2, e4, e11, e12, e13, e14, e15, e16, s12, s14, t14, s15, t15, s16, t16, e17, t17, List.take_length, hlt, and_self]
  refine callC_at a2 ?_
  simp -implicitDefEqProofs (disch := omega) only [go_sem, ↓reduceIte, reduceEqDiff, reduceMul, reduceAdd, reduceDiv, Nat.reduceBEq, reduceLeDiff, reduceToNat, reduceNe, reduceEq, reduceLT, reduceLE, Int.reduceBEq, Int.reduceBNe, e2, e4, e11, e12, e13, e14, e15, e16, s12, s14, t14, s15, t15, s16, t16, e17, t17, List.take_length, hlt, and_self]
  refine callC_at a3 ?_
  simp -implicitDefEqProofs (disch := omega) only [go_sem, ↓reduceIte, reduceEqDiff, reduceMul, reduceAdd, reduceDiv, Nat.reduceBEq, reduceLeDiff, reduceToNat, reduceNe, reduceEq, reduceLT, reduceLE, Int.reduceBEq, Int.reduceBNe, e2, e4, e11, e12, e13, e14, e15, e16, s12, s14, t14, s15, t15, s16, t16, e17, t17, List.take_length, hlt, and_self]
  refine callC_at a4 ?_
  simp -implicitDefEqProofs (disch := omega) only [go_sem, ↓reduceIte, reduceEqDiff, reduceMul, reduceAdd, reduceDiv, Nat.reduceBEq, reduceLeDiff, reduceToNat, reduceNe, reduceEq, reduceLT, reduceLE, Int.reduceBEq, Int.reduceBNe, e2, e4, e11, e12, e13, e14, e15, e16, s12, s14, t14, s15, t15, s16, t16, e17, t17, List.take_length, hlt, and_self]
  refine branch_r (by omega) ?_
  simp -implicitDefEqProofs (disch := omega) only [go_sem, ↓reduceIte, reduceEqDiff, reduceMul, reduceAdd, reduceDiv, Nat.reduceBEq, reduceLeDiff, reduceToNat, reduceNe, reduceEq, reduceLT, reduceLE, Int.reduceBEq, Int.reduceBNe, e2, e4, e11, e12, e13, e14, e15, e16, s12, s14, t14, s15, t15, s16, t16, e17, t17, List.take_length, hlt, and_self]
  refine branch_r (by omega) ?_
  simp -implicitDefEqProofs (disch := omega) only [go_sem, ↓reduceIte, reduceEqDiff, reduceMul, reduceAdd, reduceDiv, Nat.reduceBEq, reduceLeDiff, reduceToNat, reduceNe, reduceEq, reduceLT, reduceLE, Int.reduceBEq, Int.reduceBNe, e2, e4, e11, e12, e13, e14, e15, e16, s12, s14, t14, s15, t15, s16, t16, e17, t17, List.take_length, hlt, and_self, str_beq]
  have l64 : l4.length ≤ 9223372036854775807 := by omega
  refine callC_at (sameCh_ev l4 l4 l64 l64) ?_
  rw [decide_eq_true rfl]
  simp -implicitDefEqProofs (disch := omega) only [go_sem, ↓reduceIte, reduceEqDiff, reduceMul, reduceAdd, reduceDiv, Nat.reduceBEq, reduceLeDiff, reduceToNat, reduceNe, reduceEq, reduceLT, reduceLE, Int.reduceBEq, Int.reduceBNe, e2, e4, e11, e12, e13, e14, e15, e16, s12, s14, t14, s15, t15, s16, t16, e17, t17, List.take_length, hlt, and_self, str_beq, decide_eq_true rfl]
  refine callC_at (same_ev ⟨h4, l4, c4, p3'⟩ ⟨h4, l4, c4, p3'⟩ l64 l64 (by simp only [p1]; omega) (by simp only [p1]; omega) pt pt) ?_
  simp -implicitDefEqProofs (disch := omega) only [go_sem, ↓reduceIte, reduceEqDiff, reduceMul, reduceAdd, reduceDiv, Nat.reduceBEq, reduceLeDiff, reduceToNat, reduceNe, reduceEq, reduceLT, reduceLE, Int.reduceBEq, Int.reduceBNe, e2, e4, e11, e12, e13, e14, e15, e16, s12, s14, t14, s15, t15, s16, t16, e17, t17, List.take_length, hlt, and_self, str_beq, decide_eq_true rfl]
  refine callC_at (sameCh_ev l4 l4 l64 l64) ?_
  rw [decide_eq_true rfl]
  simp -implicitDefEqProofs (disch := omega) only [go_sem, ↓reduceIte, reduceEqDiff, reduceMul, reduceAdd, reduceDiv, Nat.reduceBEq, reduceLeDiff, reduceToNat, reduceNe, reduceEq, reduceLT, reduceLE, Int.reduceBEq, Int.reduceBNe, e2, e4, e11, e12, e13, e14, e15, e16, s12, s14, t14, s15, t15, s16, t16, e17, t17, List.take_length, hlt, and_self, str_beq, decide_eq_true rfl]
  refine loopC_mk (fun n E σ => ∃ v : Nat, v + n = 6 ∧ E 11 = B true ∧ E 22 = .ptr 16777568 4 0 0 ∧ E 28 = .ptr 16777664 4 0 0 ∧ E 30 = I v ∧ σ 16777568 = some ⟨51, 4, [AP ⟨h4, l4, c4, p3'⟩]⟩ ∧ σ 16777664 = some ⟨51, 4, [AP ⟨h4, l4, c4, p4'⟩]⟩) 6 ⟨0, by omega, ?_⟩ ?_
  · simp -implicitDefEqProofs (disch := omega) only [go_sem, ↓reduceIte, reduceEqDiff, reduceMul, reduceAdd, reduceDiv, Nat.reduceBEq, reduceLeDiff, reduceToNat, reduceNe, reduceEq, reduceLT, reduceLE, Int.reduceBEq, Int.reduceBNe, e2, e4, e11, e12, e13, e14, e15, e16, s12, s14, t14, s15, t15, s16, t16, e17, t17, and_self]
    try simp
  rintro n E σ ⟨v, hv, h11, h22, h28, h30, s22, s28⟩
  simp -implicitDefEqProofs (disch := omega) only [go_sem, ↓reduceIte, reduceEqDiff, reduceMul, reduceAdd, reduceDiv, Nat.reduceBEq, reduceLeDiff, reduceToNat, reduceNe, reduceEq, reduceLT, reduceLE, Int.reduceBEq, Int.reduceBNe, h11, h22, h28, h30, s22, s28, str_beq]
  refine branch_mk (fun hc => ?_) (fun hc => ?_)
  · simp -implicitDefEqProofs (disch := omega) only [go_sem, ↓reduceIte, reduceEqDiff, reduceMul, reduceAdd, reduceDiv, Nat.reduceBEq, reduceLeDiff, reduceToNat, reduceNe, reduceEq, reduceLT, reduceLE, Int.reduceBEq, Int.reduceBNe, h11, h22, h28, h30, s22, s28, str_beq]
    refine callC_at (intsR_ev (gd p3' v).1 (gd p4' v).1 (pt _ (gd_mem p3' v (by omega))) (pt4 _ (gd_mem p4' v (by omega)))) ?_
    rw [decide_eq_true (o4p v (by omega))]
    simp -implicitDefEqProofs (disch := omega) only [go_sem, ↓reduceIte, reduceEqDiff, reduceMul, reduceAdd, reduceDiv, Nat.reduceBEq, reduceLeDiff, reduceToNat, reduceNe, reduceEq, reduceLT, reduceLE, Int.reduceBEq, Int.reduceBNe, h11, h22, h28, h30, s22, s28, str_beq]
    refine againQ_mk (n - 1) (by omega) ⟨v + 1, by omega, ?_⟩
    simp -implicitDefEqProofs (disch := omega) only [go_sem, ↓reduceIte, reduceEqDiff, reduceMul, reduceAdd, reduceDiv, Nat.reduceBEq, reduceLeDiff, reduceToNat, reduceNe, reduceEq, reduceLT, reduceLE, Int.reduceBEq, Int.reduceBNe, h11, h22, h28, h30, s22, s28, str_beq]
    try simp
  · simp -implicitDefEqProofs (disch := omega) only [go_sem, ↓reduceIte, reduceEqDiff, reduceMul, reduceAdd, reduceDiv, Nat.reduceBEq, reduceLeDiff, reduceToNat, reduceNe, reduceEq, reduceLT, reduceLE, Int.reduceBEq, Int.reduceBNe, h11, h22, h28, h30, s22, s28, str_beq]
    simp -implicitDefEqProofs (disch := omega) only [go_sem, ↓reduceIte, reduceEqDiff, reduceMul, reduceAdd, reduceDiv, Nat.reduceBEq, reduceLeDiff, reduceToNat, reduceNe, reduceEq, reduceLT, reduceLE, Int.reduceBEq, Int.reduceBNe, h11, Tryd.results7]
end Go.Proofs.YtgbcfpcjljhijaaDoor
set_option maxRecDepth 100000
namespace Go.Proofs.YtgbcfpcjljhijaaDoor
open Go.Vai Go Go.Proofs
open Nat (reduceEqDiff reduceMul reduceAdd reduceDiv reduceLeDiff)
open Int (reduceToNat reduceNe reduceEq reduceLT reduceLE)
theorem auditHides_lifted (os : Os) (started : os.Started) (H : Type) (enc : TypeId × Value → H) :
    ReturnsInHanded {} Tryd.checked os 7 .any (fun w args => (Rows.auditHidesSpec.pre enc Tryd.prog Tryd.f7 [] false w args ∧ laidMetH Tryd.prog laid3 w) ∧ sizedMet enc Tryd.prog Tryd.f7 (OpenSpec.ofChange Rows.auditHidesSpec) false w args)
      (Rows.auditHidesSpec.post enc Tryd.prog Tryd.f7 false true false false) :=
  liftedG (C := Tryd.checked) (tb := 4) (ps := [OI, OFL, OFL, OI, OS]) (X := fun w _ => laidMetH Tryd.prog laid3 w) (fun _ _ _ hh h => h.of_heap hh) own3 started (by kernel_rfl) Tryd.func7
    (ChangeSpec.witness_shaped (enc := enc) (C := Tryd.checked) (os := os) (X := fun w _ => laidMetH Tryd.prog laid3 w) false (World.doorLaid Tryd.prog 14 os) #[.int .i64 0, .slice none 0 0, .slice none 0 0, .int .i64 0, .slice none 0 0] 8 rfl (World.shaped_of_RefB (by kernel_rfl) (by kernel_rfl)) (by kernel_rfl) (by kernel_rfl) (by kernel_rfl) (door_met os _))
    laidOut3 (by kernel_rfl) (by kernel_rfl) (by kernel_rfl) rfl (len_5 fun _ _ _ _ _ => rfl)
    (fun w => ⟨o_int (by kernel_rfl), o_fives, o_fives, o_int (by kernel_rfl), o_ints, trivial⟩)
    (allP_5 fun a0 a1 a2 a3 a4 h0 h1 h2 h3 h4 => by
      obtain ⟨x0, hx0, rfl⟩ := h0
      obtain ⟨x1, hx1, hr1, rfl⟩ := h1
      obtain ⟨x2, hx2, hr2, rfl⟩ := h2
      obtain ⟨x3, hx3, rfl⟩ := h3
      obtain ⟨x4, hx4, hr4, rfl⟩ := h4
      exact hides_ev x0 x1 x2 x3 x4 hx0 hx1 hr1 hx2 hr2 hx3 hx4 hr4)
    (fun _ _ h => gok h)
theorem auditHides_row : Rows.AuditHidesSaid :=
  OpenClaim.holds_of_wide 7 Tryd.f7 rfl rfl rfl rfl rfl rfl rfl ⟨rfl, rfl, rfl, rfl, rfl⟩ rfl rfl rfl rfl rfl (by kernel_rfl) Tryd.func7 (by kernel_rfl)
    (of_decide_eq_true (by kernel_rfl)) (by unfold Func.isWrapper; first | (rw [if_pos (by decide +kernel)]; kernel_rfl) | (rw [if_neg (by decide +kernel)]; exact ⟨rfl, rfl⟩))
    (fun os started H enc _ => auditHides_lifted os started H enc)
theorem auditHides_holds : Rows.AuditHidesCardSaid :=
  Claim7.holds_tied_plain_at .later [] [.data] true (true, "15e72945ea0d842684219eb61c4c3078e08fef8eedac21bc7f2d20fbaca9026f") false
    auditHides_row (fun _ h => by cases h) (by kernel_rfl) (fun _ h => by cases h) auditHides_row_tie rfl ⟨rfl, rfl⟩ (by kernel_rfl) rfl
    (fun f fn hf hfn => by
      obtain rfl : f = 7 := Option.some.inj ((show Tryd.prog.funcNamed "dialtone/dialtonelaw40.AuditHides" = some 7 by kernel_rfl).symm.trans hf) |>.symm
      obtain rfl : fn = Tryd.f7 := (Option.some.inj (Tryd.func7.symm.trans hfn)).symm
      exact ⟨by kernel_rfl, fun j t ht => by
          rw [Tryd.params7] at ht
          rcases j with _ | j
          · obtain rfl : t = 3 := by simpa using ht.symm
            exact (show Tryd.prog.wantsStandIn 3 = false by kernel_rfl)
          rcases j with _ | j
          · obtain rfl : t = 22 := by simpa using ht.symm
            exact (show Tryd.prog.wantsStandIn 22 = false by kernel_rfl)
          rcases j with _ | j
          · obtain rfl : t = 22 := by simpa using ht.symm
            exact (show Tryd.prog.wantsStandIn 22 = false by kernel_rfl)
          rcases j with _ | j
          · obtain rfl : t = 3 := by simpa using ht.symm
            exact (show Tryd.prog.wantsStandIn 3 = false by kernel_rfl)
          rcases j with _ | j
          · obtain rfl : t = 33 := by simpa using ht.symm
            exact (show Tryd.prog.wantsStandIn 33 = false by kernel_rfl)
          simp at ht⟩)
    (by kernel_rfl)
#print axioms auditHides_holds
end Go.Proofs.YtgbcfpcjljhijaaDoor

/- Chapter 12: codes, plans, updates, forms -/
import Derived.Test.YtndhglacgiidbaaGreatDoorKG
set_option linter.unusedVariables false
set_option linter.unusedSimpArgs false
set_option maxRecDepth 100000
namespace Go.Proofs.YtndhglacgiidbaaGreatDoor
open Go.Vai Go Go.Proofs
open Nat (reduceEqDiff reduceMul reduceAdd reduceDiv reduceLeDiff)
open Int (reduceToNat reduceNe reduceEq reduceLT reduceLE)
abbrev CDP (c : Cd) : AV := .agg [Str (dS c.o), Str (dS c.n), I c.k]
abbrev CDS (p : List Cd) : AV := .sl 3 (p.map CDP)
section
variable (p : Nat → Bool) (l : List Cd)
@[go_sem] theorem namesL_CDP : AV.namesL p (l.map CDP) = false := namesL_map p l CDP fun _ => rfl
@[go_sem] theorem flatL_CDP : AV.flatL (l.map CDP) = true := flatL_map l CDP fun _ => rfl
@[go_sem] theorem allOK_CDP : allOK 3 (l.map CDP) = true := allOK_map 3 l CDP fun _ => ⟨rfl, rfl⟩
@[go_sem] theorem append_CDP (a b : List Nat) (k : Int) (k' : Nat) (h : k = k') : l.map CDP ++ [.agg [Str (dS a), Str (dS b), I k]] = (l ++ [(⟨a, b, k'⟩ : Cd)]).map CDP := by simp [h]
end
theorem dS_get {l : List Nat} {i : Nat} (h : i < l.length) : (dS l)[i]? = some (UInt8.ofNat (48 + gd l i)) := by
  have : (dS l).data.toList[i]? = some (UInt8.ofNat (48 + gd l i)) := by
    rw [dS_list, List.getElem?_map, gd_some l i h]; rfl
  rw [Array.getElem?_toList] at this
  have hs : i < (dS l).size := by rw [dS_size]; exact h
  rw [getElem?_pos (dS l) i hs]
  rw [getElem?_pos (dS l).data i hs] at this
  exact this
theorem bA_beq (a b : ByteArray) : (a.toList == b.toList) = decide (a = b) := by
  rw [ByteArray.toList_eq, ByteArray.toList_eq, Bool.eq_iff_iff, decide_eq_true_iff, beq_iff_eq]
  exact ⟨bA_ext, fun h => by rw [h]⟩
theorem dS_beq {l m : List Nat} (hl : Dig l) (hm : Dig m) : ((dS l).toList == (dS m).toList) = decide (l = m) := by
  rw [bA_beq]; exact decide_eq_decide.2 (dS_eq hl hm)
theorem pre_iff {a b : List Nat} : a.isPrefixOf b = decide (b.take a.length = a) := by
  rw [Bool.eq_iff_iff, List.isPrefixOf_iff_prefix, decide_eq_true_iff, List.prefix_iff_eq_take]; exact eq_comm
theorem digits_ev (l : List Nat) (h : Dig l) (hl : l.length ≤ 1000) : Ev Tryz.prog 84 [Str (dS l)] (B true) := by
  have hs := dS_size l
  refine ev_of Tryz.func84 rfl (by kernel_rfl) mo (Nat.le_of_ble_eq_true rfl) ?_
  simp -implicitDefEqProofs (disch := omega) only [go_sem, Tryz.ntmps84]
  refine loopC_mk (fun n E σ => ∃ v : Nat, v + n = l.length ∧ E 0 = Str (dS l) ∧ E 3 = I v) l.length ⟨0, by omega, ?_⟩ ?_
  · simp -implicitDefEqProofs (disch := omega) only [go_sem]
    rfl
  rintro n E σ ⟨v, hv, e0, e3⟩
  simp -implicitDefEqProofs (disch := omega) only [go_sem, e0, e3, hs]
  refine branch_mk (fun hc => ?_) (fun hc => ?_)
  · have hg := dS_get (l := l) (i := v) (by omega)
    have hd := h _ (gd_mem l v (by omega))
    have hb := byte_nat hd
    simp -implicitDefEqProofs (disch := omega) only [go_sem, e0, e3, hs, hg, hb]
    refine branch_r (by omega) ?_
    simp -implicitDefEqProofs (disch := omega) only [go_sem, e0, e3, hs, hg, hb]
    refine branch_r (by omega) ?_
    simp -implicitDefEqProofs (disch := omega) only [go_sem, e0, e3, hs, hg, hb]
    refine againQ_mk (n - 1) (by omega) ⟨v + 1, by omega, ?_⟩
    simp -implicitDefEqProofs (disch := omega) only [go_sem, e0, e3, hs, hg, hb]
    simp
  · simp -implicitDefEqProofs (disch := omega) only [go_sem, Tryz.results84]
theorem begins_ev (a b : List Nat) (ha : Dig a) (hb : Dig b) (hal : a.length ≤ 1000) (hbl : b.length ≤ 1000) : Ev Tryz.prog 85 [Str (dS a), Str (dS b)] (B (a.isPrefixOf b)) := by
  have hs := dS_size a
  have ht := dS_size b
  refine ev_of Tryz.func85 rfl (by kernel_rfl) mo (Nat.le_of_ble_eq_true rfl) ?_
  simp -implicitDefEqProofs (disch := omega) only [go_sem, Tryz.ntmps85, hs, ht]
  refine branch_mk (fun hc => ?_) (fun hc => ?_)
  · have hx : (dS b).extract 0 a.length = dS (b.take a.length) := by rw [dS_extract, List.drop_zero, Nat.sub_zero]
    have he := dS_beq (hb.take a.length) ha
    simp -implicitDefEqProofs (disch := omega) only [go_sem, Tryz.results85, hs, ht, hx, he]
    rw [pre_iff]
  · simp -implicitDefEqProofs (disch := omega) only [go_sem, Tryz.results85]
    rw [pre_iff, decide_eq_false fun h => ?_]
    have := congrArg List.length h
    rw [List.length_take] at this; omega
theorem apartR_ev (a b : List Nat) (ha : Dig a) (hb : Dig b) (hal : a.length ≤ 1000) (hbl : b.length ≤ 1000) : Ev Tryz.prog 56 [Str (dS a), Str (dS b)] (B (apB a b)) := by
  have c1 := begins_ev a b ha hb hal hbl
  have c2 := begins_ev b a hb ha hbl hal
  unfold apB
  generalize a.isPrefixOf b = x at *
  generalize b.isPrefixOf a = y at *
  refine ev_of Tryz.func56 rfl (by kernel_rfl) mo (Nat.le_of_ble_eq_true rfl) ?_
  simp -implicitDefEqProofs (disch := omega) only [go_sem, Tryz.ntmps56]
  refine callC_at c1 ?_
  cases x
  · simp -implicitDefEqProofs (disch := omega) only [go_sem]
    refine callC_at c2 ?_
    simp -implicitDefEqProofs (disch := omega) only [go_sem, Tryz.results56]
    try rfl
  · simp -implicitDefEqProofs (disch := omega) only [go_sem, Tryz.results56]
    try rfl
theorem oneR_ev (c : Cd) (h : digC c) (hl : c.o.length ≤ 100 ∧ c.n.length ≤ 100 ∧ c.k ≤ 1000) : Ev Tryz.prog 55 [CDP c] (B (oneB c)) := by
  obtain ⟨o, n, k⟩ := c
  obtain ⟨h1, h2⟩ := h
  simp only at h1 h2 hl
  have c1 := digits_ev o h1 (by omega)
  have c2 := digits_ev n h2 (by omega)
  have c3 := apartR_ev o n h1 h2 (by omega) (by omega)
  have s1 := dS_size o
  have s2 := dS_size n
  have ho : oneB ⟨o, n, k⟩ = (decide (oneP ⟨o, n, k⟩) && apB o n) := rfl
  unfold oneP at ho
  simp only at ho
  generalize oneB ⟨o, n, k⟩ = R at *
  generalize apB o n = x at *
  have no : ¬ (((1 ≤ o.length ∧ o.length ≤ 4) ∧ 1 ≤ n.length ∧ n.length ≤ 5) ∧ (o.length < k ∧ k ≤ 7) ∧ k + n.length ≤ 8 + o.length) → R = false := fun h => by rw [ho, decide_eq_false h]; rfl
  have yes : (((1 ≤ o.length ∧ o.length ≤ 4) ∧ 1 ≤ n.length ∧ n.length ≤ 5) ∧ (o.length < k ∧ k ≤ 7) ∧ k + n.length ≤ 8 + o.length) → R = x := fun h => by rw [ho, decide_eq_true h]; rfl
  refine ev_of Tryz.func55 rfl (by kernel_rfl) mo (Nat.le_of_ble_eq_true rfl) ?_
  simp -implicitDefEqProofs (disch := omega) only [go_sem, Tryz.ntmps55]
  refine callC_at c1 ?_
  simp -implicitDefEqProofs (disch := omega) only [go_sem, s1, s2]
  refine callC_at c2 ?_
  simp -implicitDefEqProofs (disch := omega) only [go_sem, s1, s2]
  iterate 4
    refine branch_mk (fun hc => by rw [no (by omega)]; simp -implicitDefEqProofs (disch := omega) only [go_sem, Tryz.results55]) (fun hc => ?_)
    simp -implicitDefEqProofs (disch := omega) only [go_sem, s1, s2]
  iterate 3
    refine branch_mk (fun hc => ?_) (fun hc => by rw [no (by omega)]; simp -implicitDefEqProofs (disch := omega) only [go_sem, Tryz.results55])
    simp -implicitDefEqProofs (disch := omega) only [go_sem, s1, s2]
  refine callC_at c3 ?_
  rw [yes (by omega)]
  simp -implicitDefEqProofs (disch := omega) only [go_sem, Tryz.results55]
theorem fall (p : List Cd) {i : Nat} (hi : i < p.length) (h : okAt p i = false) : validP p = false := by
  rw [validP, Bool.and_eq_false_iff]
  exact .inr (List.all_eq_false.2 ⟨i, List.mem_range.2 hi, by rw [h]; decide⟩)
set_option maxHeartbeats 2000000 in
theorem validR_ev (p : List Cd) (h : digP p) (hl : ∀ c ∈ p, c.o.length ≤ 100 ∧ c.n.length ≤ 100 ∧ c.k ≤ 1000) (hp : p.length ≤ 1000) : Ev Tryz.prog 22 [CDS p] (B (validP p)) := by
  have hone := fun i (hi : i < p.length) => oneR_ev _ (digP_at h hi) (hl _ (gd_mem p i hi))
  have hap := fun (a b : List Nat) (ha : Dig a) (hb : Dig b) (h1 : a.length ≤ 100) (h2 : b.length ≤ 100) => apartR_ev a b ha hb (by omega) (by omega)
  have hfall := fun i (hi : i < p.length) => fall p hi
  have hyes : p.length ≤ 20 → (∀ i, i < p.length → okAt p i = true) → validP p = true := fun h1 h2 => by
    rw [validP, decide_eq_true h1, Bool.true_and, List.all_eq_true]
    exact fun i hi => h2 i (List.mem_range.1 hi)
  have hno : ¬ p.length ≤ 20 → validP p = false := fun h => by rw [validP, decide_eq_false h]; rfl
  generalize validP p = R at *
  refine ev_of Tryz.func22 rfl (by kernel_rfl) mo (Nat.le_of_ble_eq_true rfl) ?_
  simp -implicitDefEqProofs (disch := omega) only [go_sem, Tryz.ntmps22]
  refine branch_mk (fun hc => by rw [hno (by omega)]; simp -implicitDefEqProofs (disch := omega) only [go_sem, Tryz.results22]) (fun hc => ?_)
  simp -implicitDefEqProofs (disch := omega) only [go_sem]
  refine loopC_mk (fun n E σ => ∃ i : Nat, i + n = p.length ∧ E 0 = CDS p ∧ E 3 = I i ∧ ∀ j, j < i → okAt p j = true) p.length ⟨0, by omega, ?_⟩ ?_
  · simp -implicitDefEqProofs (disch := omega) only [go_sem]
    exact ⟨rfl, fun j hj => absurd hj (Nat.not_lt_zero _)⟩
  rintro n E σ ⟨i, hi, e0, e3, hok⟩
  simp -implicitDefEqProofs (disch := omega) only [go_sem, e0, e3]
  refine branch_mk (fun hc => ?_) (fun hc => ?_)
  rotate_left
  · rw [hyes (by omega) fun j hj => hok j (by omega)]
    simp -implicitDefEqProofs (disch := omega) only [go_sem, Tryz.results22]
  have hil : i < p.length := by omega
  have hokd : okAt p i = (oneB (gd p i) && (List.range i).all fun k => difB (gd p i) (gd p k)) := rfl
  have hf := hfall i hil
  have c1 := hone i hil
  have hd := digP_at h hil
  have hll := hl _ (gd_mem p i hil)
  simp -implicitDefEqProofs (disch := omega) only [go_sem, e0, e3]
  generalize hgi : gd p i = c at *
  refine callC_at c1 ?_
  generalize oneB c = x at *
  cases x
  · rw [hf hokd]
    simp -implicitDefEqProofs (disch := omega) only [go_sem, e0, e3, Tryz.results22]
  rw [Bool.true_and] at hokd
  simp -implicitDefEqProofs (disch := omega) only [go_sem, e0, e3]
  refine loopC_mk (fun m E σ => ∃ k : Nat, k + m = i ∧ E 0 = CDS p ∧ E 3 = I i ∧ E 4 = I k ∧ ∀ j, j < k → difB c (gd p j) = true) i ⟨0, by omega, ?_⟩ ?_
  · simp -implicitDefEqProofs (disch := omega) only [go_sem, e0, e3]
    exact ⟨rfl, fun j hj => absurd hj (Nat.not_lt_zero _)⟩
  clear e0 e3 E σ
  rintro m E σ ⟨k, hk, e0, e3, e4, hdk⟩
  simp -implicitDefEqProofs (disch := omega) only [go_sem, e0, e3, e4]
  refine branch_mk (fun hc2 => ?_) (fun hc2 => ?_)
  rotate_left
  · simp -implicitDefEqProofs (disch := omega) only [go_sem, e0, e3]
    refine againQ_mk (p.length - (i + 1)) (by omega) ⟨i + 1, by omega, ?_⟩
    simp -implicitDefEqProofs (disch := omega) only [go_sem, e0, e3]
    refine ⟨by simp, fun j hj => ?_⟩
    by_cases hji : j < i
    · exact hok j hji
    · obtain rfl : j = i := by omega
      rw [hokd, List.all_eq_true]
      exact fun q hq => hdk q (by have := List.mem_range.1 hq; omega)
  have hkl : k < p.length := by omega
  have hd2 := digP_at h hkl
  have hl2 := hl _ (gd_mem p k hkl)
  have hdd : difB c (gd p k) = (apB c.o (gd p k).o && (apB c.n (gd p k).n && (apB c.o (gd p k).n && apB c.n (gd p k).o))) := rfl
  have hbad : difB c (gd p k) = false → R = false := fun hh => hf (by
    rw [hokd, List.all_eq_false]
    exact ⟨k, List.mem_range.2 (by omega), by rw [hh]; decide⟩)
  simp -implicitDefEqProofs (disch := omega) only [go_sem, e0, e3, e4, hgi]
  generalize hgk : gd p k = d at *
  have c1 := hap _ _ hd.1 hd2.1 hll.1 hl2.1
  have c2 := hap _ _ hd.2 hd2.2 hll.2.1 hl2.2.1
  have c3 := hap _ _ hd.1 hd2.2 hll.1 hl2.2.1
  have c4 := hap _ _ hd.2 hd2.1 hll.2.1 hl2.1
  generalize apB c.o d.o = y1 at *
  generalize apB c.n d.n = y2 at *
  generalize apB c.o d.n = y3 at *
  generalize apB c.n d.o = y4 at *
  refine callC_at c1 ?_
  cases y1
  · rw [hbad hdd]
    simp -implicitDefEqProofs (disch := omega) only [go_sem, e0, e3, e4, hgi, hgk, Tryz.results22]
  simp -implicitDefEqProofs (disch := omega) only [go_sem, e0, e3, e4, hgi, hgk]
  refine callC_at c2 ?_
  cases y2
  · rw [hbad hdd]
    simp -implicitDefEqProofs (disch := omega) only [go_sem, e0, e3, e4, hgi, hgk, Tryz.results22]
  simp -implicitDefEqProofs (disch := omega) only [go_sem, e0, e3, e4, hgi, hgk]
  refine callC_at c3 ?_
  cases y3
  · rw [hbad hdd]
    simp -implicitDefEqProofs (disch := omega) only [go_sem, e0, e3, e4, hgi, hgk, Tryz.results22]
  simp -implicitDefEqProofs (disch := omega) only [go_sem, e0, e3, e4, hgi, hgk]
  refine callC_at c4 ?_
  cases y4
  · rw [hbad hdd]
    simp -implicitDefEqProofs (disch := omega) only [go_sem, e0, e3, e4, hgi, hgk, Tryz.results22]
  simp -implicitDefEqProofs (disch := omega) only [go_sem, e0, e3, e4, hgi, hgk]
  refine againQ_mk (i - (k + 1)) (by omega) ⟨k + 1, by omega, ?_⟩
  simp -implicitDefEqProofs (disch := omega) only [go_sem, e0, e3, e4, hgi, hgk]
  refine ⟨by simp, fun j hj => ?_⟩
  by_cases hjk : j < k
  · exact hdk j hjk
  · obtain rfl : j = k := by omega
    rw [hgk, hdd]; rfl
end Go.Proofs.YtndhglacgiidbaaGreatDoor
set_option maxRecDepth 100000
namespace Go.Proofs.YtndhglacgiidbaaGreatDoor
open Go.Vai Go Go.Proofs
open Nat (reduceEqDiff reduceMul reduceAdd reduceDiv reduceLeDiff)
open Int (reduceToNat reduceNe reduceEq reduceLT reduceLE)
theorem pick12_ev (c n : Int) (hc : R64 c) (hn : 0 < n) : Ev Tryz.prog 54 [I c, I n] (I (pickF c n)) := by
  obtain ⟨h1, h2⟩ := hc
  refine ev_of Tryz.func54 rfl (by kernel_rfl) mo (Nat.le_of_ble_eq_true rfl) ?_
  simp -implicitDefEqProofs (disch := omega) only [go_sem, Tryz.ntmps54]
  refine branch_mk (fun h => ?_) (fun h => ?_) <;> simp -implicitDefEqProofs (disch := omega) only [go_sem, Tryz.results54]
  · rw [show (0 - (c+1)) = -(c+1) from by omega]; simp [pickF, h]
  · simp [pickF, h]
theorem pickT_ev (c n : Int) (hc : R64 c) (hn : 0 < n) : Ev Tryz.prog 6 [I c, I n] (I (pickF c n)) := by
  obtain ⟨h1, h2⟩ := hc
  refine ev_of Tryz.func6 rfl (by kernel_rfl) mo (Nat.le_of_ble_eq_true rfl) ?_
  simp -implicitDefEqProofs (disch := omega) only [go_sem, Tryz.ntmps6]
  refine branch_mk (fun h => ?_) (fun h => ?_) <;> simp -implicitDefEqProofs (disch := omega) only [go_sem, Tryz.results6]
  · rw [show (0 - (c+1)) = -(c+1) from by omega]; simp [pickF, h]
  · simp [pickF, h]
theorem prefix_ev (c n : Nat) (hc : c ≤ 1000) (hn : n ≤ 10) : Ev Tryz.prog 53 [I c, I n] (Str (dS (prefF c n))) := by
  refine ev_ofB [5] Tryz.func53 rfl (by kernel_rfl) mo (Nat.le_of_ble_eq_true rfl) ?_
  simp -implicitDefEqProofs (disch := omega) only [go_sem, Tryz.ntmps53]
  refine loopC_mk (fun m E σ => ∃ v : Nat, v + m = n ∧ E 0 = I (c / 10 ^ v : Nat) ∧ E 1 = I n ∧ E 5 = Str (dS (prefF c v)) ∧ E 6 = I v) n ⟨0, by omega, ?_⟩ ?_
  · simp -implicitDefEqProofs (disch := omega) only [go_sem]
    simp [prefF]
    rfl
  rintro m E σ ⟨v, hv, e0, e1, e5, e6⟩
  simp -implicitDefEqProofs (disch := omega) only [go_sem, e0, e1, e5, e6]
  refine branch_mk (fun hc2 => ?_) (fun hc2 => ?_)
  rotate_left
  · obtain rfl : v = n := by omega
    simp -implicitDefEqProofs (disch := omega) only [go_sem, e5, Tryz.results53]
  have hle : c / 10 ^ v ≤ 1000 := Nat.le_trans (Nat.div_le_self _ _) hc
  have hs : prefF c (v + 1) = prefF c v ++ [c / 10 ^ v % 10] := prefF_succ c v
  have hq : c / 10 ^ (v + 1) = c / 10 ^ v / 10 := by rw [Nat.pow_succ, Nat.div_div_eq_div_mul]
  have hsz := dS_size (prefF c v)
  have hpl := prefF_length c v
  have hs1 : (dS [c / 10 ^ v % 10]).size = 1 := dS_size _
  have happ := dS_append (prefF c v) [c / 10 ^ v % 10]
  generalize c / 10 ^ v = x at *
  have hm : (x : Int).tmod 10 = ((x % 10 : Nat) : Int) := by rw [Int.tmod_eq_emod_of_nonneg (by omega)]; omega
  have hd : (x : Int).tdiv 10 = ((x / 10 : Nat) : Int) := by rw [Int.tdiv_eq_ediv_of_nonneg (by omega)]; omega
  have hw : IntKind.u8.wrap (48 + ((x % 10 : Nat) : Int)) = 48 + ((x % 10 : Nat) : Int) := by simp [IntKind.wrap, IntKind.bits, IntKind.signed]; omega
  have hstr : strOfNums [48 + ((x % 10 : Nat) : Int)] = dS [x % 10] := rfl
  generalize hy : x % 10 = y at *
  refine reg_mk Plain.mono ?_
  simp -implicitDefEqProofs (disch := omega) only [go_sem, e0, e1, e5, e6, hm, hd]
  refine toStr_mk [48 + (y : Int)] (by simp -implicitDefEqProofs (disch := omega) only [go_sem, hw]) (by intro b; simp -implicitDefEqProofs (disch := omega) only [go_sem]; intro e; cases e) (e := 5) rfl rfl rfl ?_
  rw [hstr]
  simp -implicitDefEqProofs (disch := omega) only [go_sem, e0, e1, e5, e6, hm, hd, happ, hsz, hpl, hs1]
  refine againQ_mk (m - 1) (by omega) ⟨v + 1, by omega, ?_⟩
  simp -implicitDefEqProofs (disch := omega) only [go_sem, e0, e1, e5, e6, hm, hd, hs, hq]
  try simp
theorem r64_div {a : Int} (h : R64 a) : R64 (a.tdiv 3) := by
  obtain ⟨h1, h2⟩ := h
  have : a = 3 * (a.tdiv 3) + a.tmod 3 := (Int.mul_tdiv_add_tmod a 3).symm
  have h3 := Int.tmod_lt_of_pos a (b := 3) (by omega)
  have h4 := Int.lt_tmod_of_pos a (b := 3) (by omega)
  unfold R64; omega
theorem prefix_at (c n : Int) (hc : 0 ≤ c ∧ c ≤ 1000) (hn : 0 ≤ n ∧ n ≤ 10) : Ev Tryz.prog 53 [I c, I n] (Str (dS (prefF c.toNat n.toNat))) := by
  have := prefix_ev c.toNat n.toNat (by omega) (by omega)
  rwa [Int.toNat_of_nonneg hc.1, Int.toNat_of_nonneg hn.1] at this
theorem one12_ev (a b c : Int) (ha : R64 a) (hb : R64 b) (hc : R64 c) : Ev Tryz.prog 21 [.agg [I a, I b, I c]] (CDP (oneF a b c)) := by
  have a1 := pick12_ev (a.tdiv 3) 1000 (r64_div ha) (by omega)
  have a2 := pick12_ev a 3 ha (by omega)
  have b1 := pick12_ev (b.tdiv 3) 1000 (r64_div hb) (by omega)
  have b2 := pick12_ev b 3 hb (by omega)
  have i1 := pickF_in (c := a.tdiv 3) (n := 1000) (by omega)
  have i2 := pickF_in (c := a) (n := 3) (by omega)
  have j1 := pickF_in (c := b.tdiv 3) (n := 1000) (by omega)
  have j2 := pickF_in (c := b) (n := 3) (by omega)
  obtain ⟨ra1, ra2⟩ := r64_div ha
  obtain ⟨rb1, rb2⟩ := r64_div hb
  unfold oneF
  generalize pickF (a.tdiv 3) 1000 = x1 at *
  generalize pickF a 3 = x2 at *
  generalize pickF (b.tdiv 3) 1000 = y1 at *
  generalize pickF b 3 = y2 at *
  have c1 := prefix_at x1 (1 + x2) (by omega) (by omega)
  have c2 := prefix_at y1 (1 + y2) (by omega) (by omega)
  have l1 := prefF_length x1.toNat (1 + x2).toNat
  have l2 := prefF_length y1.toNat (1 + y2).toNat
  generalize prefF x1.toNat (1 + x2).toNat = o at *
  generalize prefF y1.toNat (1 + y2).toNat = n at *
  have s1 := dS_size o
  have s2 := dS_size n
  have hm : 0 < min (7 - (o.length : Int)) (8 - (n.length : Int)) ∧ min (7 - (o.length : Int)) (8 - (n.length : Int)) ≤ 7 := by omega
  have d1 := pick12_ev c (min (7 - (o.length : Int)) (8 - (n.length : Int))) hc hm.1
  have k1 := pickF_in (c := c) hm.1
  simp only
  generalize hM : min (7 - (o.length : Int)) (8 - (n.length : Int)) = M at *
  have hk : ((o.length + 1 + (pickF c M).toNat : Nat) : Int) = o.length + 1 + pickF c M := by omega
  rw [show CDP ⟨o, n, o.length + 1 + (pickF c M).toNat⟩ = .agg [Str (dS o), Str (dS n), I (o.length + 1 + pickF c M)] from by rw [← hk]]
  clear hk
  generalize pickF c M = z at *
  refine ev_of Tryz.func21 rfl (by kernel_rfl) mo (Nat.le_of_ble_eq_true rfl) ?_
  simp -implicitDefEqProofs (disch := omega) only [go_sem, Tryz.ntmps21]
  refine callC_at a1 ?_
  simp -implicitDefEqProofs (disch := omega) only [go_sem]
  refine callC_at a2 ?_
  simp -implicitDefEqProofs (disch := omega) only [go_sem]
  refine callC_at c1 ?_
  simp -implicitDefEqProofs (disch := omega) only [go_sem]
  refine callC_at b1 ?_
  simp -implicitDefEqProofs (disch := omega) only [go_sem]
  refine callC_at b2 ?_
  simp -implicitDefEqProofs (disch := omega) only [go_sem]
  refine callC_at c2 ?_
  simp -implicitDefEqProofs (disch := omega) only [go_sem, s1, s2, hM]
  refine callC_at d1 ?_
  simp -implicitDefEqProofs (disch := omega) only [go_sem, s1, s2, hM, false_and, Tryz.results21]
abbrev T3 := Int × Int × Int
abbrev TP3 (t : T3) : AV := .agg [I t.1, I t.2.1, I t.2.2]
abbrev TL3 (x : List T3) : AV := .sl 3 (x.map TP3)
def T3.ok (t : T3) : Prop := R64 t.1 ∧ R64 t.2.1 ∧ R64 t.2.2
section
variable (p : Nat → Bool) (l : List T3)
@[go_sem] theorem namesL_TP3 : AV.namesL p (l.map TP3) = false := namesL_map p l TP3 fun _ => rfl
@[go_sem] theorem flatL_TP3 : AV.flatL (l.map TP3) = true := flatL_map l TP3 fun _ => rfl
end
theorem gd_take {T : Type} [Inhabited T] (l : List T) {i n : Nat} (h : i < n) : gd (l.take n) i = gd l i := by unfold gd; simp [List.getElem?_take, h]
theorem made_step (x : List T3) {i : Nat} (hi : i < x.length) (h16 : i < 16) : ((x.take 16).take (i + 1)).foldl stepM [] = stepM (((x.take 16).take i).foldl stepM []) (gd x i) := by
  rw [List.take_add_one, gd_some (x.take 16) i (by rw [List.length_take]; omega), gd_take x h16, List.foldl_append]
  rfl
theorem made_end (x : List T3) {i : Nat} (hi : i ≤ x.length) (h : ¬ (i < x.length ∧ i < 16 ∧ (((x.take 16).take i).foldl stepM []).length < 8)) : ((x.take 16).take i).foldl stepM [] = madeP x := by
  unfold madeP
  by_cases hf : (((x.take 16).take i).foldl stepM []).length < 8
  · rw [List.take_of_length_le (l := x.take 16) (by rw [List.length_take]; omega)]
  · conv => rhs; rw [← List.take_append_drop i (x.take 16), List.foldl_append]
    rw [stepM_full hf]
theorem made_len (x : List T3) (i : Nat) : (((x.take 16).take i).foldl stepM []).length ≤ 8 ∧ ∀ c ∈ ((x.take 16).take i).foldl stepM [], ∃ a b d, c = oneF a b d := by
  have : ∀ (l : List T3) (p : List Cd), p.length ≤ 8 ∧ (∀ c ∈ p, ∃ a b d, c = oneF a b d) → (l.foldl stepM p).length ≤ 8 ∧ ∀ c ∈ l.foldl stepM p, ∃ a b d, c = oneF a b d := by
    intro l
    induction l with
    | nil => exact fun _ h => h
    | cons y l ih =>
      intro p ⟨h1, h2⟩
      rw [List.foldl_cons]
      refine ih _ ?_
      unfold stepM
      split
      · rename_i h
        refine ⟨by simp; omega, fun c hc => ?_⟩
        rcases List.mem_append.1 hc with hc | hc
        · exact h2 c hc
        · exact ⟨_, _, _, List.mem_singleton.1 hc⟩
      · exact ⟨h1, h2⟩
  exact this _ [] ⟨Nat.zero_le _, fun c hc => by cases hc⟩
theorem one_size (a b c : Int) : (oneF a b c).o.length ≤ 100 ∧ (oneF a b c).n.length ≤ 100 ∧ (oneF a b c).k ≤ 1000 := by
  unfold oneF
  simp only [prefF_length]
  have i2 := pickF_in (c := a) (n := 3) (by omega)
  have j2 := pickF_in (c := b) (n := 3) (by omega)
  have hm : 0 < min (7 - (((1 + pickF a 3).toNat : Nat) : Int)) (8 - (((1 + pickF b 3).toNat : Nat) : Int)) ∧ min (7 - (((1 + pickF a 3).toNat : Nat) : Int)) (8 - (((1 + pickF b 3).toNat : Nat) : Int)) ≤ 7 := by omega
  have k1 := pickF_in (c := c) hm.1
  omega
set_option maxHeartbeats 2000000 in
theorem made12_ev (x : List T3) (hx : x.length ≤ 9223372036854775807) (hr : ∀ t ∈ x, t.ok) : Ev Tryz.prog 4 [TL3 x] (CDS (madeP x)) := by
  have hend := fun i => made_end x (i := i)
  have hstep := fun i => made_step x (i := i)
  have hlen := made_len x
  have h0 : ((x.take 16).take 0).foldl stepM [] = [] := rfl
  generalize hF : (fun i => ((x.take 16).take i).foldl stepM []) = F
  have hF' : ∀ i, ((x.take 16).take i).foldl stepM [] = F i := fun i => congrFun hF i
  simp only [hF'] at hend hstep hlen h0
  clear hF hF'
  generalize madeP x = R at *
  refine ev_ofB [2, 5, 6] Tryz.func4 rfl (by kernel_rfl) mo (Nat.le_of_ble_eq_true rfl) ?_
  simp -implicitDefEqProofs (disch := omega) only [go_sem, Tryz.ntmps4]
  refine freeze_reg Plain.mono [10485808] ?_
  simp -implicitDefEqProofs (disch := omega) only [go_sem]
  refine loopC_mk (fun m E σ => ∃ i : Nat, i + m = x.length ∧ E 0 = TL3 x ∧ E 3 = CDS (F i) ∧ E 4 = I i) x.length ⟨0, by omega, ?_⟩ ?_
  · simp -implicitDefEqProofs (disch := omega) only [go_sem, h0]
    try exact ⟨rfl, rfl⟩
  rintro m E σ ⟨i, hi, e0, e3, e4⟩
  obtain ⟨hl8, hon⟩ := hlen i
  simp -implicitDefEqProofs (disch := omega) only [go_sem, e0, e3, e4]
  have hout : ¬ (i < x.length ∧ i < 16 ∧ (F i).length < 8) → F i = R := hend i (by omega)
  refine branch_mk (fun g1 => ?_) (fun g1 => ?_)
  rotate_left
  · rw [hout (by omega)] at e3
    simp -implicitDefEqProofs (disch := omega) only [go_sem, e0, e3, e4, Tryz.results4]
    try rfl
  simp -implicitDefEqProofs (disch := omega) only [go_sem, e0, e3, e4]
  refine branch_mk (fun g2 => ?_) (fun g2 => ?_)
  rotate_left
  · rw [hout (by omega)] at e3
    simp -implicitDefEqProofs (disch := omega) only [go_sem, e0, e3, e4, Tryz.results4]
    try rfl
  simp -implicitDefEqProofs (disch := omega) only [go_sem, e0, e3, e4]
  refine branch_mk (fun g3 => ?_) (fun g3 => ?_)
  rotate_left
  · rw [hout (by omega)] at e3
    simp -implicitDefEqProofs (disch := omega) only [go_sem, e0, e3, e4, Tryz.results4]
    try rfl
  simp -implicitDefEqProofs (disch := omega) only [go_sem, e0, e3, e4]
  have hil : i < x.length := by omega
  obtain ⟨r1, r2, r3⟩ := hr _ (gd_mem x i hil)
  have c7 := one12_ev _ _ _ r1 r2 r3
  have hs := hstep i hil (by omega)
  unfold stepM at hs
  have hsz := one_size (gd x i).1 (gd x i).2.1 (gd x i).2.2
  have hdg := oneF_dig (gd x i).1 (gd x i).2.1 (gd x i).2.2
  have c8 := validR_ev (F i ++ [oneF (gd x i).1 (gd x i).2.1 (gd x i).2.2]) (fun c hc => by
    rcases List.mem_append.1 hc with hc | hc
    · obtain ⟨a, b, d, rfl⟩ := hon c hc; exact oneF_dig _ _ _
    · rw [List.mem_singleton.1 hc]; exact hdg) (fun c hc => by
    rcases List.mem_append.1 hc with hc | hc
    · obtain ⟨a, b, d, rfl⟩ := hon c hc; exact one_size _ _ _
    · rw [List.mem_singleton.1 hc]; exact hsz) (by simp; omega)
  generalize oneF (gd x i).1 (gd x i).2.1 (gd x i).2.2 = c at *
  generalize hp : F i = p at *
  have hap : p.map CDP ++ [CDP c] = (p ++ [c]).map CDP := by simp
  refine region_K (fun D E σ => E 0 = TL3 x ∧ E 3 = CDS p ∧ E 4 = I i ∧ (D 2 = true → D 0 = true) ∧ (D 9 = true → D 2 = true) ∧ (D 10 = true → D 9 = true) ∧ (D 0 = true → D 2 = false → σ 10486096 = some ⟨65, 3, []⟩) ∧ (D 0 = true → D 2 = false → E 21 = .own 10486096 3 0 0) ∧ (D 2 = true → D 9 = false → σ 10486096 = some ⟨65, 3, p.map CDP⟩) ∧ (D 2 = true → D 9 = false → E 23 = .own 10486096 3 0 p.length) ∧ (D 9 = true → D 10 = false → σ 10486096 = some ⟨65, 3, (p ++ [c]).map CDP⟩) ∧ (D 9 = true → D 10 = false → E 30 = .own 10486096 3 0 (p.length + 1)) ∧ (D 10 = true → σ 10486096 = some ⟨65, 3, (p ++ [c]).map CDP⟩) ∧ (D 10 = true → E 5 = .own 10486096 3 0 (p.length + 1)) ∧ (D 8 = true → σ 10486224 = some ⟨65, 3, [CDP c]⟩) ∧ (D 8 = true → E 29 = .own 10486224 3 0 1) ∧ (D 1 = true → E 22 = CDS p) ∧ (D 3 = true → E 24 = TL3 x) ∧ (D 4 = true → E 25 = I i) ∧ (D 5 = true → E 26 = .pt (TP3 (gd x i)) 0) ∧ (D 6 = true → E 27 = TP3 (gd x i)) ∧ (D 7 = true → E 28 = CDP c)) ?_ ?_ ?_
  · simp -implicitDefEqProofs (disch := omega) only [go_sem, hil, hap, List.take_length]
    exact ⟨e0, e3, e4, by simp⟩
  · simp only [stepsK, depK, Region.binds, eq_self, forall_const, and_true]
    repeat' apply And.intro
    all_goals
      rintro D E σ ⟨e0, e3, e4, c2_0, c9_2, c10_9, m0_0, n0_0, m0_1, n0_1, m0_2, n0_2, m0_3, n0_3, m1_0, n1_0, j1, j3, j4, j5, j6, j7⟩ hd
      have k := And.intro trivial <| And.intro (cK c2_0) <| And.intro (cK c9_2) <| And.intro (cK c10_9) trivial
      simp -implicitDefEqProofs (disch := first | assumption | (simp only [hd, k]; done) | omega) only [go_sem, e0, e3, e4, m0_0, n0_0, m0_1, n0_1, m0_2, n0_2, m0_3, n0_3, m1_0, n1_0, j1, j3, j4, j5, j6, j7, hil, hap, List.take_length]
      try (refine callC_at c7 ?_; simp -implicitDefEqProofs (disch := first | assumption | (simp only [hd, k]; done) | omega) only [go_sem, e0, e3, e4, m0_0, n0_0, m0_1, n0_1, m0_2, n0_2, m0_3, n0_3, m1_0, n1_0, j1, j3, j4, j5, j6, j7, hil, hap, List.take_length])
      repeat' apply And.intro
      all_goals first | assumption | (intro _; assumption) | trivial | (simp -implicitDefEqProofs (contextual := true) (disch := first | assumption | omega) only [go_sem, m0_0, n0_0, m0_1, n0_1, m0_2, n0_2, m0_3, n0_3, m1_0, n1_0, j1, j3, j4, j5, j6, j7, hd, c2_0, c9_2, c10_9, k, implies_true, forall_const, false_implies, true_implies]; done) | (intro h; intros; exfalso; simp (maxDischargeDepth := 9) [hd, k] at h; done) | (intro h1 h2; refine killS_of (m0_1 h1 h2) (by first | rfl | simp -implicitDefEqProofs (disch := omega) only [go_sem]); done) | (intro h1 h2; rw [n0_1 h1 h2]; rfl) | (intros; contradiction) | trace_state
  · rintro D E σ hD ⟨e0, e3, e4, c2_0, c9_2, c10_9, m0_0, n0_0, m0_1, n0_1, m0_2, n0_2, m0_3, n0_3, m1_0, n1_0, j1, j3, j4, j5, j6, j7⟩
    have g0 := m0_3 (hD 10 (by decide))
    have f0 := n0_3 (hD 10 (by decide))
    have g1 := m1_0 (hD 8 (by decide))
    have f1 := n1_0 (hD 8 (by decide))
    have q1 := j1 (hD 1 (by decide))
    have q3 := j3 (hD 3 (by decide))
    have q4 := j4 (hD 4 (by decide))
    have q5 := j5 (hD 5 (by decide))
    have q6 := j6 (hD 6 (by decide))
    have q7 := j7 (hD 7 (by decide))
    clear c2_0 c9_2 c10_9 m0_0 n0_0 m0_1 n0_1 m0_2 n0_2 m0_3 n0_3 m1_0 n1_0 j1 j3 j4 j5 j6 j7 hD
    simp -implicitDefEqProofs (disch := omega) only [go_sem, e0, e3, e4, g0, f0]
    refine freeze_reg Plain.mono [10486096, 10486224] ?_
    have hl1 : (p ++ [c]).take (p.length + 1) = p ++ [c] := List.take_of_length_le (by simp)
    simp -implicitDefEqProofs (disch := omega) only [go_sem, e0, e3, e4, g0, g1, f0, f1, hl1]
    refine callC_at c8 ?_
    by_cases hv : validP (p ++ [c]) = true
    · rw [if_pos ⟨by omega, hv⟩] at hs
      rw [hv]
      simp -implicitDefEqProofs (disch := omega) only [go_sem, e0, e3, e4, g0, f0]
      refine againQ_mk (m - 1) (by omega) ⟨i + 1, by omega, ?_⟩
      rw [hs]
      simp -implicitDefEqProofs (disch := omega) only [go_sem, e0, e3, e4, g0, f0]
      simp
    · rw [if_neg fun h => hv h.2] at hs
      rw [Bool.eq_false_iff.2 hv]
      simp -implicitDefEqProofs (disch := omega) only [go_sem, e0, e3, e4, g0, f0]
      refine againQ_mk (m - 1) (by omega) ⟨i + 1, by omega, ?_⟩
      rw [hs]
      simp -implicitDefEqProofs (disch := omega) only [go_sem, e0, e3, e4, g0, f0]
      simp
end Go.Proofs.YtndhglacgiidbaaGreatDoor
set_option maxRecDepth 100000
namespace Go.Proofs.YtndhglacgiidbaaGreatDoor
open Go.Vai Go Go.Proofs
open Nat (reduceEqDiff reduceMul reduceAdd reduceDiv reduceLeDiff)
open Int (reduceToNat reduceNe reduceEq reduceLT reduceLE)
theorem hasS_ev (s p : List Nat) (hs : Dig s) (hp : Dig p) (hsl : s.length ≤ 1000) (hpl : p.length ≤ 1000) : Ev Tryz.prog 61 [Str (dS s), Str (dS p)] (B (p.isPrefixOf s)) := by
  have h1 := dS_size s
  have h2 := dS_size p
  refine ev_of Tryz.func61 rfl (by kernel_rfl) mo (Nat.le_of_ble_eq_true rfl) ?_
  simp -implicitDefEqProofs (disch := omega) only [go_sem, Tryz.ntmps61, h1, h2]
  refine branch_mk (fun hc => ?_) (fun hc => ?_)
  · have hx : (dS s).extract 0 p.length = dS (s.take p.length) := by rw [dS_extract, List.drop_zero, Nat.sub_zero]
    have he := dS_beq (hs.take p.length) hp
    simp -implicitDefEqProofs (disch := omega) only [go_sem, Tryz.results61, h1, h2, hx, he]
    rw [pre_iff]
  · simp -implicitDefEqProofs (disch := omega) only [go_sem, Tryz.results61]
    rw [pre_iff, decide_eq_false fun h => ?_]
    have := congrArg List.length h
    rw [List.length_take] at this; omega
theorem has_ev (s p : List Nat) (hs : Dig s) (hp : Dig p) (hsl : s.length ≤ 1000) (hpl : p.length ≤ 1000) : Ev Tryz.prog 33 [Str (dS s), Str (dS p)] (B (p.isPrefixOf s)) := by
  have c := hasS_ev s p hs hp hsl hpl
  refine ev_of Tryz.func33 rfl (by kernel_rfl) mo (Nat.le_of_ble_eq_true rfl) ?_
  simp -implicitDefEqProofs (disch := omega) only [go_sem, Tryz.ntmps33]
  refine callC_at c ?_
  simp -implicitDefEqProofs (disch := omega) only [go_sem, Tryz.results33]
theorem apart_ev' (a b : List Nat) (ha : Dig a) (hb : Dig b) (hal : a.length ≤ 1000) (hbl : b.length ≤ 1000) (h : apB a b = true) : Ev Tryz.prog 25 [Str (dS a), Str (dS b)] (B true) := by
  have c1 := has_ev a b ha hb hal hbl
  have c2 := has_ev b a hb ha hbl hal
  unfold apB at h
  rw [Bool.and_eq_true, Bool.not_eq_true', Bool.not_eq_true'] at h
  rw [h.1] at c2
  rw [h.2] at c1
  refine ev_of Tryz.func25 rfl (by kernel_rfl) mo (Nat.le_of_ble_eq_true rfl) ?_
  simp -implicitDefEqProofs (disch := omega) only [go_sem, Tryz.ntmps25]
  refine callC_at c1 ?_
  simp -implicitDefEqProofs (disch := omega) only [go_sem]
  refine callC_at c2 ?_
  simp -implicitDefEqProofs (disch := omega) only [go_sem, Tryz.results25]
theorem isDig_ev (l : List Nat) (h : Dig l) (hl : l.length ≤ 1000) : Ev Tryz.prog 36 [Str (dS l)] (B true) := by
  have c := trimD_ev l h hl
  refine ev_of Tryz.func36 rfl (by kernel_rfl) mo (Nat.le_of_ble_eq_true rfl) ?_
  simp -implicitDefEqProofs (disch := omega) only [go_sem, Tryz.ntmps36]
  refine callC_at c ?_
  simp -implicitDefEqProofs (disch := omega) only [go_sem, beq_self_eq_true, Tryz.results36]
theorem within_ev (n lo hi : Int) (h : lo ≤ n ∧ n ≤ hi) : Ev Tryz.prog 27 [I n, I lo, I hi] (B true) := by
  refine ev_of Tryz.func27 rfl (by kernel_rfl) mo (Nat.le_of_ble_eq_true rfl) ?_
  simp -implicitDefEqProofs (disch := omega) only [go_sem, Tryz.ntmps27]
  refine branch_l h.1 ?_
  simp -implicitDefEqProofs (disch := omega) only [go_sem, Tryz.results27]
  simp [h.2]
theorem phase_ev (n : Int) (h : 1 ≤ n ∧ n ≤ 3) : Ev Tryz.prog 28 [I n] (B true) := by
  refine ev_of Tryz.func28 rfl (by kernel_rfl) mo (Nat.le_of_ble_eq_true rfl) ?_
  simp -implicitDefEqProofs (disch := omega) only [go_sem, Tryz.ntmps28]
  refine callC_at (within_ev n 1 3 h) ?_
  simp -implicitDefEqProofs (disch := omega) only [go_sem, Tryz.results28]
theorem room_ev (c : Cd) (h : c.o.length ≤ 1000 ∧ c.k ≤ 1000) : Ev Tryz.prog 31 [CDP c] (I ((c.k : Int) - c.o.length)) := by
  have h1 := dS_size c.o
  refine ev_of Tryz.func31 rfl (by kernel_rfl) mo (Nat.le_of_ble_eq_true rfl) ?_
  simp -implicitDefEqProofs (disch := omega) only [go_sem, h1, Tryz.ntmps31, Tryz.results31]
theorem isCode_ev (c : Cd) (hd : digC c) (h : oneB c = true) : Ev Tryz.prog 23 [CDP c] (B true) := by
  simp only [oneB, Bool.and_eq_true, decide_eq_true_eq] at h
  obtain ⟨⟨⟨⟨a1, a2⟩, b1, b2⟩, ⟨k1, k2⟩, k3⟩, hap⟩ := h
  have c1 := isDig_ev (c.o ++ c.n) (hd.1.app hd.2) (by simp; omega)
  have c2 := within_ev c.o.length 1 4 (by omega)
  have c3 := within_ev c.n.length 1 5 (by omega)
  have c4 := within_ev c.k ((c.o.length : Int) + 1) 7 (by omega)
  have c5 := room_ev c (by omega)
  have c6 := apart_ev' c.o c.n hd.1 hd.2 (by omega) (by omega) hap
  have h1 := dS_size c.o
  have h2 := dS_size c.n
  have h3 := dS_append c.o c.n
  obtain ⟨o, n, k⟩ := c
  simp only at *
  refine ev_of Tryz.func23 rfl (by kernel_rfl) mo (Nat.le_of_ble_eq_true rfl) ?_
  simp -implicitDefEqProofs (disch := omega) only [go_sem, Tryz.ntmps23, h1, h2, h3]
  refine callC_at c1 ?_
  simp -implicitDefEqProofs (disch := omega) only [go_sem, h1, h2, h3]
  refine callC_at c2 ?_
  simp -implicitDefEqProofs (disch := omega) only [go_sem, h1, h2, h3]
  refine callC_at c3 ?_
  simp -implicitDefEqProofs (disch := omega) only [go_sem, h1, h2, h3]
  refine callC_at c4 ?_
  simp -implicitDefEqProofs (disch := omega) only [go_sem, h1, h2, h3]
  refine callC_at c5 ?_
  simp -implicitDefEqProofs (disch := omega) only [go_sem, h1, h2, h3]
  refine branch_l (by omega) ?_
  simp -implicitDefEqProofs (disch := omega) only [go_sem, h1, h2, h3]
  refine callC_at c6 ?_
  simp -implicitDefEqProofs (disch := omega) only [go_sem, h1, h2, h3, Tryz.results23]
theorem differ_ev' (a b : Cd) (ha : digC a) (hb : digC b) (hla : a.o.length ≤ 100 ∧ a.n.length ≤ 100) (hlb : b.o.length ≤ 100 ∧ b.n.length ≤ 100) (h : difB a b = true) : Ev Tryz.prog 24 [CDP a, CDP b] (B true) := by
  simp only [difB, Bool.and_eq_true] at h
  obtain ⟨h1, h2, h3, h4⟩ := h
  refine ev_of Tryz.func24 rfl (by kernel_rfl) mo (Nat.le_of_ble_eq_true rfl) ?_
  simp -implicitDefEqProofs (disch := omega) only [go_sem, Tryz.ntmps24]
  refine callC_at (apart_ev' a.o b.o ha.1 hb.1 (by omega) (by omega) h1) ?_
  simp -implicitDefEqProofs (disch := omega) only [go_sem]
  refine callC_at (apart_ev' a.n b.n ha.2 hb.2 (by omega) (by omega) h2) ?_
  simp -implicitDefEqProofs (disch := omega) only [go_sem]
  refine callC_at (apart_ev' a.o b.n ha.1 hb.2 (by omega) (by omega) h3) ?_
  simp -implicitDefEqProofs (disch := omega) only [go_sem]
  refine callC_at (apart_ev' a.n b.o ha.2 hb.1 (by omega) (by omega) h4) ?_
  simp -implicitDefEqProofs (disch := omega) only [go_sem, Tryz.results24]
theorem all_ev' (p : List Cd) (hp : p.length ≤ 1000) (h : ∀ i, i < p.length → ∀ k, k < i → Ev Tryz.prog 24 [CDP (gd p i), CDP (gd p k)] (B true)) : Ev Tryz.prog 26 [CDS p, .clo 24 []] (B true) := by
  refine ev_of Tryz.func26 rfl (by kernel_rfl) mo (Nat.le_of_ble_eq_true rfl) ?_
  simp -implicitDefEqProofs (disch := omega) only [go_sem, Tryz.ntmps26]
  refine loopC_mk (fun n E σ => ∃ i : Nat, i + n = p.length ∧ E 0 = CDS p ∧ E 1 = .clo 24 [] ∧ E 9 = CDS p ∧ E 10 = I p.length ∧ E 11 = I i) p.length ⟨0, by omega, ?_⟩ ?_
  · simp -implicitDefEqProofs (disch := omega) only [go_sem]
    try rfl
  rintro n E σ ⟨i, hi, e0, e1, e9, e10, e11⟩
  simp -implicitDefEqProofs (disch := omega) only [go_sem, e0, e1, e9, e10, e11]
  refine branch_mk (fun hc => ?_) (fun hc => ?_)
  rotate_left
  · simp -implicitDefEqProofs (disch := omega) only [go_sem, Tryz.results26]
  have hil : i < p.length := by omega
  have hcl := h i hil
  have htl : (p.take i).length = i := by rw [List.length_take]; omega
  have hgt : ∀ k, k < i → gd (p.take i) k = gd p k := fun k hk => gd_take p hk
  generalize hT : p.take i = T at *
  simp -implicitDefEqProofs (disch := omega) only [go_sem, e0, e1, e9, e10, e11, hT, htl]
  generalize hgi : gd p i = a at *
  refine loopC_mk (fun m E σ => ∃ k : Nat, k + m = i ∧ E 0 = CDS p ∧ E 1 = .clo 24 [] ∧ E 6 = .ptr 56623200 3 0 0 ∧ E 9 = CDS p ∧ E 10 = I p.length ∧ E 11 = I i ∧ E 18 = CDS T ∧ E 19 = I i ∧ E 20 = I k ∧ σ 56623200 = some ⟨65, 3, [CDP a]⟩) i ⟨0, by omega, ?_⟩ ?_
  · simp -implicitDefEqProofs (disch := omega) only [go_sem, e0, e1, e9, e10, e11, hT, htl, Nat.sub_zero]
    try ((repeat' apply And.intro) <;> rfl)
  clear e0 e1 e9 e10 e11 E σ
  rintro m E σ ⟨k, hk, e0, e1, e6, e9, e10, e11, e18, e19, e20, m6⟩
  simp -implicitDefEqProofs (disch := omega) only [go_sem, e0, e1, e6, e9, e10, e11, e18, e19, e20, m6]
  refine branch_mk (fun hc2 => ?_) (fun hc2 => ?_)
  · have hkl : k < T.length := by omega
    have c := hcl k (by omega)
    rw [← hgt k (by omega)] at c
    simp -implicitDefEqProofs (disch := omega) only [go_sem, e0, e1, e6, e9, e10, e11, e18, e19, e20, m6]
    refine callC_at c ?_
    simp -implicitDefEqProofs (disch := omega) only [go_sem, e0, e1, e6, e9, e10, e11, e18, e19, e20, m6]
    refine againQ_mk (i - (k + 1)) (by omega) ⟨k + 1, by omega, ?_⟩
    simp -implicitDefEqProofs (disch := omega) only [go_sem, e0, e1, e6, e9, e10, e11, e18, e19, e20, m6]
    try rfl
  · simp -implicitDefEqProofs (disch := omega) only [go_sem, e0, e1, e6, e9, e10, e11, e18, e19, e20, m6]
    refine againQ_mk (p.length - (i + 1)) (by omega) ⟨i + 1, by omega, ?_⟩
    simp -implicitDefEqProofs (disch := omega) only [go_sem, e0, e1, e6, e9, e10, e11, e18, e19, e20, m6]
    try rfl
structure PlOK (p : List Cd) : Prop where
  v : validP p = true
  d : digP p
theorem one_len {c : Cd} (h : oneB c = true) : (1 ≤ c.o.length ∧ c.o.length ≤ 4) ∧ (1 ≤ c.n.length ∧ c.n.length ≤ 5) ∧ (c.o.length < c.k ∧ c.k ≤ 7) ∧ c.k + c.n.length ≤ 8 + c.o.length := by
  simp only [oneB, Bool.and_eq_true, decide_eq_true_eq] at h
  exact ⟨h.1.1.1, h.1.1.2, h.1.2.1, h.1.2.2⟩
theorem PlOK.one {p : List Cd} (h : PlOK p) {i : Nat} (hi : i < p.length) : oneB (gd p i) = true := ((validP_iff.1 h.v).2 i hi).1
theorem PlOK.len {p : List Cd} (h : PlOK p) {i : Nat} (hi : i < p.length) : (1 ≤ (gd p i).o.length ∧ (gd p i).o.length ≤ 4) ∧ (1 ≤ (gd p i).n.length ∧ (gd p i).n.length ≤ 5) ∧ ((gd p i).o.length < (gd p i).k ∧ (gd p i).k ≤ 7) ∧ (gd p i).k + (gd p i).n.length ≤ 8 + (gd p i).o.length := one_len (h.one hi)
theorem valid_ev' (p : List Cd) (h : PlOK p) : Ev Tryz.prog 5 [CDS p] (B true) := by
  obtain ⟨h20, hat⟩ := validP_iff.1 h.v
  have hone := fun i (hi : i < p.length) => isCode_ev _ (digP_at h.d hi) (hat i hi).1
  have hlen := fun i (hi : i < p.length) => h.len hi
  have hall := all_ev' p (by omega) fun i hi k hk => by
    have l1 := hlen i hi
    have l2 := hlen k (by omega)
    exact differ_ev' _ _ (digP_at h.d hi) (digP_at h.d (by omega)) (by omega) (by omega) ((hat i hi).2 k hk)
  clear hat hlen h
  refine ev_of Tryz.func5 rfl (by kernel_rfl) mo (Nat.le_of_ble_eq_true rfl) ?_
  simp -implicitDefEqProofs (disch := omega) only [go_sem, Tryz.ntmps5]
  refine loopC_mk (fun n E σ => ∃ i : Nat, i + n = p.length ∧ E 0 = CDS p ∧ E 6 = CDS p ∧ E 7 = I p.length ∧ E 8 = I i) p.length ⟨0, by omega, ?_⟩ ?_
  · simp -implicitDefEqProofs (disch := omega) only [go_sem]
    try rfl
  rintro n E σ ⟨i, hi, e0, e6, e7, e8⟩
  simp -implicitDefEqProofs (disch := omega) only [go_sem, e0, e6, e7, e8]
  refine branch_mk (fun hc => ?_) (fun hc => ?_)
  · have c := hone i (by omega)
    simp -implicitDefEqProofs (disch := omega) only [go_sem, e0, e6, e7, e8]
    refine callC_at c ?_
    simp -implicitDefEqProofs (disch := omega) only [go_sem, e0, e6, e7, e8]
    refine againQ_mk (p.length - (i + 1)) (by omega) ⟨i + 1, by omega, ?_⟩
    simp -implicitDefEqProofs (disch := omega) only [go_sem, e0, e6, e7, e8]
    try rfl
  · simp -implicitDefEqProofs (disch := omega) only [go_sem, e0, e6, e7, e8]
    refine branch_l (by omega) ?_
    simp -implicitDefEqProofs (disch := omega) only [go_sem, e0, e6, e7, e8]
    refine callC_at hall ?_
    simp -implicitDefEqProofs (disch := omega) only [go_sem, Tryz.results5]
end Go.Proofs.YtndhglacgiidbaaGreatDoor
set_option maxRecDepth 100000
namespace Go.Proofs.YtndhglacgiidbaaGreatDoor
open Go.Vai Go Go.Proofs
open Nat (reduceEqDiff reduceMul reduceAdd reduceDiv reduceLeDiff)
open Int (reduceToNat reduceNe reduceEq reduceLT reduceLE)
theorem pow_le {v n : Nat} (h : v ≤ n) : (10 : Nat) ^ v ≤ 10 ^ n := Nat.pow_le_pow_right (by decide) h
theorem power_ev (n : Nat) (hn : n ≤ 8) : Ev Tryz.prog 30 [I n] (I (10 ^ n : Nat)) := by
  refine ev_of Tryz.func30 rfl (by kernel_rfl) mo (Nat.le_of_ble_eq_true rfl) ?_
  simp -implicitDefEqProofs (disch := omega) only [go_sem, Tryz.ntmps30]
  refine loopC_mk (fun m E σ => ∃ v : Nat, v + m = n ∧ E 3 = I (10 ^ v : Nat) ∧ E 4 = I n ∧ E 5 = I v) n ⟨0, by omega, ?_⟩ ?_
  · simp -implicitDefEqProofs (disch := omega) only [go_sem]
    try exact ⟨rfl, rfl⟩
  rintro m E σ ⟨v, hv, e3, e4, e5⟩
  simp -implicitDefEqProofs (disch := omega) only [go_sem, e3, e4, e5]
  have h8 : 10 ^ v ≤ 100000000 := pow_le (n := 8) (by omega)
  have hs : 10 ^ (v + 1) = 10 ^ v * 10 := Nat.pow_succ ..
  generalize hq : 10 ^ (v + 1) = y at *
  generalize hx : 10 ^ v = x at *
  refine branch_mk (fun hc => ?_) (fun hc => ?_)
  · simp -implicitDefEqProofs (disch := omega) only [go_sem, e3, e4, e5]
    refine againQ_mk (n - (v + 1)) (by omega) ⟨v + 1, by omega, ?_⟩
    rw [hq, hs]
    simp -implicitDefEqProofs (disch := omega) only [go_sem, e3, e4, e5]
    try simp
  · obtain rfl : v = n := by omega
    rw [hx]
    simp -implicitDefEqProofs (disch := omega) only [go_sem, e3, e4, e5, Tryz.results30]
def frC (c : Cd) : Nat := val c.n * 10 ^ (8 - c.n.length)
theorem frC_le {c : Cd} (h : Dig c.n) (hn : c.n.length ≤ 8) : frC c + 10 ^ (8 - c.n.length) ≤ 100000000 := by
  have h1 := val_lt h
  have h2 : (val c.n + 1) * 10 ^ (8 - c.n.length) ≤ 10 ^ c.n.length * 10 ^ (8 - c.n.length) := Nat.mul_le_mul_right _ h1
  rw [← Nat.pow_add, show c.n.length + (8 - c.n.length) = 8 from by omega, Nat.add_mul, Nat.one_mul] at h2
  exact h2
set_option maxHeartbeats 1000000 in
theorem range_ev (p : List Cd) (h : PlOK p) (i : Nat) (hi : i < p.length) (ph : Int) (hph : ph = 1 ∨ ph = 3) : Ev Tryz.prog 7 [CDS p, I i, I ph] (.tup [.agg [I (frC (gd p i)), I ((frC (gd p i) : Int) + (10 ^ (if ph = 1 then (gd p i).k - (gd p i).o.length else 8 - (gd p i).n.length) : Nat))], I 0]) := by
  have c1 := valid_ev' p h
  have c2 := within_ev i 0 ((p.length : Int) - 1) (by omega)
  have c3 := phase_ev ph (by omega)
  have h20 := (validP_iff.1 h.v).1
  obtain ⟨l1, l2, l3, l4⟩ := h.len hi
  have hd := digP_at h.d hi
  have c6 := room_ev (gd p i) (by omega)
  have hfr := frC_le hd.2 (by omega)
  unfold frC at hfr ⊢
  generalize hgi : gd p i = c at *
  obtain ⟨o, n, k⟩ := c
  simp only at *
  have c4 := atoi_ev n hd.2 (fun hh => by subst hh; simp at l2) (by omega)
  have c5 := power_ev (8 - n.length) (by omega)
  have c7 := power_ev (k - o.length) (by omega)
  have h2 := dS_size n
  rw [show (((8 - n.length : Nat) : Nat) : Int) = 8 - (n.length : Int) from by omega] at c5
  rw [show ((k - o.length : Nat) : Int) = (k : Int) - o.length from by omega] at c7
  have hp7 : 10 ^ (k - o.length) ≤ 100000000 := pow_le (n := 8) (by omega)
  have hp8 : 10 ^ (8 - n.length) ≤ 100000000 := pow_le (n := 8) (by omega)
  generalize hy : 10 ^ (8 - n.length) = y at *
  have hv : val n ≤ 100000 := by
    have h1 : val n < 10 ^ n.length := val_lt hd.2
    have h3 : 10 ^ n.length ≤ 100000 := pow_le (n := 5) (by omega)
    omega
  generalize val n = w at *
  have hm : w * y ≤ 100000000 := by omega
  have hwy : (w : Int) * (y : Int) = ((w * y : Nat) : Int) := by push_cast; rfl
  generalize w * y = z at *
  refine ev_of Tryz.func7 rfl (by kernel_rfl) mo (Nat.le_of_ble_eq_true rfl) ?_
  simp -implicitDefEqProofs (disch := omega) only [go_sem, Tryz.ntmps7]
  refine callC_at c1 ?_
  simp -implicitDefEqProofs (disch := omega) only [go_sem]
  refine callC_at c2 ?_
  simp -implicitDefEqProofs (disch := omega) only [go_sem]
  refine callC_at c3 ?_
  simp -implicitDefEqProofs (disch := omega) only [go_sem, hgi, h2]
  refine callC_at c4 ?_
  simp -implicitDefEqProofs (disch := omega) only [go_sem, hgi, h2]
  refine callC_at c5 ?_
  simp -implicitDefEqProofs (disch := omega) only [go_sem, hgi, h2, hwy]
  refine callC_at c5 ?_
  simp -implicitDefEqProofs (disch := omega) only [go_sem, hgi, h2, hwy]
  rcases hph with rfl | rfl
  · rw [if_pos rfl]
    simp -implicitDefEqProofs (disch := omega) only [go_sem, hgi, h2, hwy]
    refine callC_at c6 ?_
    simp -implicitDefEqProofs (disch := omega) only [go_sem, hgi, h2, hwy]
    refine callC_at c7 ?_
    generalize 10 ^ (k - o.length) = y1 at *
    simp -implicitDefEqProofs (disch := omega) only [go_sem, hgi, h2, hwy, Tryz.results7]
  · rw [if_neg (by decide), hy]
    simp -implicitDefEqProofs (disch := omega) only [go_sem, hgi, h2, hwy, Tryz.results7]
theorem eight_ev (n : Nat) (hn : n < 100000000) : Ev Tryz.prog 32 [I n] (Str (dS (dgN 8 n))) := by
  obtain ⟨l, h1, h2, h3, h4⟩ := itoa_pad hn
  have c1 := itoa_ev n hn l h2
  have c2 := repeat_ev (8 - l.length) (by omega)
  have s1 := dS_size l
  have s2 := dS_size (zer (8 - l.length))
  have s3 : (zer (8 - l.length)).length = 8 - l.length := List.length_replicate ..
  have happ := dS_append (zer (8 - l.length)) l
  rw [h4] at happ
  rw [show ((8 - l.length : Nat) : Int) = 8 - (l.length : Int) from by omega] at c2
  generalize dgN 8 n = W at *
  generalize dS (zer (8 - l.length)) = Z at *
  refine ev_of Tryz.func32 rfl (by kernel_rfl) mo (Nat.le_of_ble_eq_true rfl) ?_
  simp -implicitDefEqProofs (disch := omega) only [go_sem, Tryz.ntmps32]
  refine callC_at c1 ?_
  simp -implicitDefEqProofs (disch := omega) only [go_sem, s1]
  refine callC_at c2 ?_
  simp -implicitDefEqProofs (disch := omega) only [go_sem, s1, s2, s3, happ, Tryz.results32]
def oldF (c : Cd) (W : List Nat) : List Nat := c.o ++ W.drop (8 - (c.k - c.o.length))
set_option maxHeartbeats 2000000 in
theorem write_ev (p : List Cd) (h : PlOK p) (i : Nat) (hi : i < p.length) (N : Nat) (hN : N < 100000000) (hpre : (gd p i).n <+: dgN 8 N) (ph : Int) (hph : ph = 3 ∨ ph = 1 ∧ ((dgN 8 N).take (8 - ((gd p i).k - (gd p i).o.length))).drop (gd p i).n.length = zer (8 - ((gd p i).k - (gd p i).o.length) - (gd p i).n.length)) :
    Ev Tryz.prog 8 [CDS p, I N, I ph] (.tup [Str (dS (if ph = 1 then oldF (gd p i) (dgN 8 N) else dgN 8 N)), I 0]) := by
  have c1 := valid_ev' p h
  have c2 := phase_ev ph (by omega)
  have c3 := within_ev N 0 99999999 (by omega)
  have c4 := eight_ev N hN
  have h20 := (validP_iff.1 h.v).1
  have hW := dgN_dig 8 N
  have hWl := dgN_length 8 N
  generalize dgN 8 N = W at *
  have hno : ∀ j, j < p.length → j ≠ i → (gd p j).n.isPrefixOf W = false := fun j hj hne => by
    rw [← Bool.not_eq_true, List.isPrefixOf_iff_prefix]
    intro hh
    have := ky_one h.v (b := true) (c := true) hj hi hh hpre
    exact hne (Prod.mk.inj this).1
  have hc := fun j (hj : j < p.length) => has_ev W (gd p j).n hW (digP_at h.d hj).2 (by omega) (by have := h.len hj; omega)
  have hyes : (gd p i).n.isPrefixOf W = true := List.isPrefixOf_iff_prefix.2 hpre
  obtain ⟨l1, l2, l3, l4⟩ := h.len hi
  have hd := digP_at h.d hi
  have c6 := room_ev (gd p i) (by omega)
  have sW := dS_size W
  refine ev_of Tryz.func8 rfl (by kernel_rfl) mo (Nat.le_of_ble_eq_true rfl) ?_
  simp -implicitDefEqProofs (disch := omega) only [go_sem, Tryz.ntmps8]
  refine callC_at c1 ?_
  simp -implicitDefEqProofs (disch := omega) only [go_sem]
  refine callC_at c2 ?_
  simp -implicitDefEqProofs (disch := omega) only [go_sem]
  refine callC_at c3 ?_
  simp -implicitDefEqProofs (disch := omega) only [go_sem]
  refine callC_at c4 ?_
  simp -implicitDefEqProofs (disch := omega) only [go_sem]
  clear c1 c2 c3 c4
  refine loopC_mk (fun n E σ => ∃ j : Nat, j + n = p.length ∧ j ≤ i ∧ E 2 = I ph ∧ E 8 = Str (dS W) ∧ E 27 = CDS p ∧ E 28 = I p.length ∧ E 29 = I j) p.length ⟨0, by omega, by omega, ?_⟩ ?_
  · simp -implicitDefEqProofs (disch := omega) only [go_sem]
    try rfl
  rintro n E σ ⟨j, hj, hji, e2, e8, e27, e28, e29⟩
  simp -implicitDefEqProofs (disch := omega) only [go_sem, e2, e8, e27, e28, e29]
  refine branch_l (by omega) ?_
  have hjl : j < p.length := by omega
  have cj := hc j hjl
  simp -implicitDefEqProofs (disch := omega) only [go_sem, e2, e8, e27, e28, e29]
  refine callC_at cj ?_
  by_cases hne : j = i
  rotate_left
  · rw [hno j hjl hne]
    simp -implicitDefEqProofs (disch := omega) only [go_sem, e2, e8, e27, e28, e29]
    refine againQ_mk (p.length - (j + 1)) (by omega) ⟨j + 1, by omega, by omega, ?_⟩
    simp -implicitDefEqProofs (disch := omega) only [go_sem, e2, e8, e27, e28, e29]
    try rfl
  subst hne
  rw [hyes]
  clear hc hno cj
  generalize hgi : gd p j = c at *
  obtain ⟨o, m, k⟩ := c
  simp only at *
  have s2 := dS_size m
  rcases hph with rfl | ⟨rfl, hz⟩
  · rw [if_neg (by decide)]
    simp -implicitDefEqProofs (disch := omega) only [go_sem, e2, e8, e27, e28, e29, hgi, Tryz.results8]
  rw [if_pos rfl]
  simp -implicitDefEqProofs (disch := omega) only [go_sem, e2, e8, e27, e28, e29, hgi]
  refine callC_at c6 ?_
  have hk : 8 - ((k : Int) - o.length) = ((8 - (k - o.length) : Nat) : Int) := by omega
  have hx : (dS W).extract m.length (8 - (k - o.length)) = dS (zer (8 - (k - o.length) - m.length)) := by
    rw [dS_extract, ← hz, List.drop_take]
  have c7 := trim0_ev (8 - (k - o.length) - m.length) (by omega)
  have hy : (dS W).extract (8 - (k - o.length)) 8 = dS (W.drop (8 - (k - o.length))) := by
    rw [dS_extract, List.take_of_length_le (by rw [List.length_drop]; omega)]
  have hap := dS_append o (W.drop (8 - (k - o.length)))
  have s3 := dS_size o
  have s4 := dS_size (W.drop (8 - (k - o.length)))
  rw [List.length_drop] at s4
  unfold oldF
  simp only
  generalize hq : 8 - (k - o.length) = q at *
  simp -implicitDefEqProofs (disch := omega) only [go_sem, e2, e8, e27, e28, e29, hgi, s2, hk, hx, sW, hWl]
  refine callC_at c7 ?_
  simp -implicitDefEqProofs (disch := omega) only [go_sem, e2, e8, e27, e28, e29, hgi, hk, hy, sW, hWl, bne_self_eq_false, beq_self_eq_true]
  simp -implicitDefEqProofs (disch := omega) only [go_sem, e2, e8, e27, e28, e29, hgi, hk, hy, hap, s3, s4, sW, hWl, Tryz.results8]
end Go.Proofs.YtndhglacgiidbaaGreatDoor
set_option maxRecDepth 100000
namespace Go.Proofs.YtndhglacgiidbaaGreatDoor
open Go.Vai Go Go.Proofs
open Nat (reduceEqDiff reduceMul reduceAdd reduceDiv reduceLeDiff)
open Int (reduceToNat reduceNe reduceEq reduceLT reduceLE)
abbrev ENP (i k : Int) (s : List Nat) : AV := .agg [I i, I k, Str (dS s)]
def stF (c : Cd) : List Nat := c.n ++ zer (8 - c.n.length - (c.k - c.o.length))
def entC (p : List Cd) (i : Nat) : List (ByteArray × AV) := [(dS (gd p i).o, ENP i (gd p i).k (stF (gd p i))), (dS (gd p i).n, ENP i 8 (gd p i).n)]
def entP (p : List Cd) : Nat → List (ByteArray × AV)
  | 0 => []
  | i + 1 => entP p i ++ entC p i
theorem entP_mem {p : List Cd} {q : ByteArray × AV} : ∀ {i : Nat}, q ∈ entP p i ↔ ∃ j, j < i ∧ q ∈ entC p j
  | 0 => ⟨(fun h => by cases h), fun ⟨_, h, _⟩ => absurd h (Nat.not_lt_zero _)⟩
  | i + 1 => by
    rw [entP, List.mem_append, entP_mem]
    constructor
    · rintro (⟨j, h1, h2⟩ | h)
      · exact ⟨j, by omega, h2⟩
      · exact ⟨i, by omega, h⟩
    · rintro ⟨j, h1, h2⟩
      by_cases hj : j < i
      · exact .inl ⟨j, hj, h2⟩
      · obtain rfl : j = i := by omega
        exact .inr h2
theorem entC_key {p : List Cd} {i : Nat} {q : ByteArray × AV} (h : q ∈ entC p i) : ∃ b, q.1 = dS (kyP p i b) := by
  rcases List.mem_cons.1 h with rfl | h
  · exact ⟨false, rfl⟩
  · rw [List.mem_singleton.1 h]; exact ⟨true, rfl⟩
theorem idxS_none {n : ByteArray} : ∀ {l : List (ByteArray × AV)}, (∀ q ∈ l, q.1 ≠ n) → idxS n l = none
  | [], _ => rfl
  | q :: l, h => by
    rw [idxS, if_neg (h q (.head _)), idxS_none fun x hx => h x (.tail _ hx)]; rfl
theorem put_new {l : List (ByteArray × AV)} {n : ByteArray} {v : AV} (h : ∀ q ∈ l, q.1 ≠ n) : mputS l n v = l ++ [(n, v)] := by
  unfold mputS; rw [idxS_none h]
theorem ky_ne {p : List Cd} (h : PlOK p) {i j : Nat} {b c : Bool} (hi : i < p.length) (hj : j < p.length) (hne : (i, b) ≠ (j, c)) : dS (kyP p i b) ≠ dS (kyP p j c) := fun e => by
  have e := dS_inj (ky_dig h.d hi) (ky_dig h.d hj) e
  have := apB_iff.1 (ky_apart h.v hi hj hne)
  rw [e] at this
  exact this.1 (List.prefix_refl _)
theorem put_two {p : List Cd} (h : PlOK p) {i : Nat} (hi : i < p.length) : mputS (entP p i) (dS (gd p i).o) (ENP i (gd p i).k (stF (gd p i))) = entP p i ++ [(dS (gd p i).o, ENP i (gd p i).k (stF (gd p i)))] ∧
    mputS (entP p i ++ [(dS (gd p i).o, ENP i (gd p i).k (stF (gd p i)))]) (dS (gd p i).n) (ENP i 8 (gd p i).n) = entP p (i + 1) := by
  have old : ∀ (b : Bool) (q : ByteArray × AV), q ∈ entP p i → q.1 ≠ dS (kyP p i b) := fun b q hq => by
    obtain ⟨j, hj, hq⟩ := entP_mem.1 hq
    obtain ⟨c, hc⟩ := entC_key hq
    rw [hc]
    exact ky_ne h (by omega) hi fun e => by have := (Prod.mk.inj e).1; omega
  refine ⟨put_new (old false), ?_⟩
  rw [put_new, List.append_assoc]; rfl
  intro q hq
  rcases List.mem_append.1 hq with hq | hq
  · exact old true q hq
  · rw [List.mem_singleton.1 hq]
    exact ky_ne h (b := false) (c := true) hi hi fun e => by cases e
theorem und_mpe : Tryz.prog.underlying 84 = some (.map 9 87) := by kernel_rfl
theorem und_str : Tryz.prog.underlying 9 = some .string := by kernel_rfl
@[go_sem] theorem retK_mp {σ : Store} {R : AV → Prop} (es : List AV) : retK σ R [.mp es] = R (.mp es) := by
  simp only [retK, expOK, topIds, AV.single, expo, topP_nil (vs := [.mp es]) rfl, killS_nil, eq_iff_iff, true_and]
  refine ⟨fun h => h.2, fun h => ⟨⟨List.nodup_nil, fun v hv => ?_⟩, h⟩⟩
  rw [List.mem_singleton] at hv
  subst hv
  try trivial
theorem names_ent {q : Nat → Bool} {M : List (ByteArray × AV)} (h : ∀ x ∈ M, ∃ i k s, x.2 = ENP i k s) : AV.namesL q (M.map entS) = false := by
  rw [← Bool.not_eq_true, AV.namesL_iff]
  rintro ⟨c, hc, hn⟩
  obtain ⟨⟨a, v⟩, hx, rfl⟩ := List.mem_map.1 hc
  obtain ⟨i, k, s, e⟩ := h _ hx
  simp only at e
  subst e
  exact Bool.false_ne_true hn
theorem ent_val {p : List Cd} {i : Nat} {x : ByteArray × AV} (h : x ∈ entP p i) : ∃ i k s, x.2 = ENP i k s := by
  obtain ⟨j, _, h⟩ := entP_mem.1 h
  rcases List.mem_cons.1 h with rfl | h
  · exact ⟨_, _, _, rfl⟩
  · rw [List.mem_singleton.1 h]; exact ⟨_, _, _, rfl⟩
set_option maxHeartbeats 2000000 in
theorem entries_ev (p : List Cd) (h : PlOK p) : Ev Tryz.prog 37 [CDS p, I 2] (.mp ((entP p p.length).map entS)) := by
  have h20 := (validP_iff.1 h.v).1
  have hput := fun i (hi : i < p.length) => put_two h hi
  have hlen := fun i (hi : i < p.length) => h.len hi
  have hroom := fun i (hi : i < p.length) => room_ev (gd p i) (by have := h.len hi; omega)
  have h0 : entP p 0 = [] := rfl
  have hnm := fun q i => names_ent (q := q) (M := entP p i) fun x hx => ent_val hx
  refine ev_ofB [10] Tryz.func37 rfl (by kernel_rfl) mo (Nat.le_of_ble_eq_true rfl) ?_
  simp -implicitDefEqProofs (disch := omega) only [go_sem, Tryz.ntmps37]
  refine makeMap_mk ?_
  simp -implicitDefEqProofs (disch := omega) only [go_sem]
  refine loopC_mk (fun k E σ => ∃ i : Nat, i + k = p.length ∧ E 1 = I 2 ∧ E 5 = .mref 79691904 ∧ E 9 = CDS p ∧ E 10 = I p.length ∧ E 11 = I i ∧ σ 79691904 = some ⟨84, 0, (entP p i).map entS⟩) p.length ⟨0, by omega, ?_⟩ ?_
  · rw [h0]
    simp -implicitDefEqProofs (disch := omega) only [go_sem]
    try ((repeat' apply And.intro) <;> rfl)
  rintro k E σ ⟨i, hk, e1, e5, e9, e10, e11, m8⟩
  simp -implicitDefEqProofs (disch := omega) only [go_sem, e1, e5, e9, e10, e11, m8]
  refine branch_mk (fun hc => ?_) (fun hc => ?_)
  rotate_left
  · obtain rfl : i = p.length := by omega
    simp -implicitDefEqProofs (disch := omega) only [go_sem, e1, e5, e9, e10, e11, m8]
    refine freeze_reg Plain.mono [79691904] ?_
    simp -implicitDefEqProofs (disch := omega) only [go_sem, e1, e5, e9, e10, e11, m8, hnm]
    simp -implicitDefEqProofs (disch := omega) only [go_sem, e1, e5, e9, e10, e11, m8, hnm, Tryz.results37]
  have hi : i < p.length := by omega
  obtain ⟨u1, u2⟩ := hput i hi
  obtain ⟨l1, l2, l3, l4⟩ := hlen i hi
  have c1 := hroom i hi
  have hn := fun q => hnm q i
  have hn1 : ∀ q, AV.namesL q ((entP p i ++ [(dS (gd p i).o, ENP i (gd p i).k (stF (gd p i)))]).map entS) = false := fun q => names_ent fun x hx => by
    rcases List.mem_append.1 hx with hx | hx
    · exact ent_val hx
    · rw [List.mem_singleton.1 hx]; exact ⟨_, _, _, rfl⟩
  have hst : dS (gd p i).n ++ dS (zer (8 - (gd p i).n.length - ((gd p i).k - (gd p i).o.length))) = dS (stF (gd p i)) := dS_append ..
  have c2 := repeat_ev (8 - (gd p i).n.length - ((gd p i).k - (gd p i).o.length)) (by omega)
  rw [show ((8 - (gd p i).n.length - ((gd p i).k - (gd p i).o.length) : Nat) : Int) = 8 - ((gd p i).n.length : Int) - (((gd p i).k : Int) - (gd p i).o.length) from by omega] at c2
  have s1 := dS_size (gd p i).n
  have s2 := dS_size (zer (8 - (gd p i).n.length - ((gd p i).k - (gd p i).o.length)))
  rw [List.length_replicate] at s2
  generalize stF (gd p i) = st at *
  generalize zer (8 - (gd p i).n.length - ((gd p i).k - (gd p i).o.length)) = Z at *
  generalize hM2 : entP p (i + 1) = M2 at *
  generalize hgi : gd p i = c at *
  obtain ⟨o, n, q⟩ := c
  simp only at *
  clear hput hlen hroom h
  generalize entP p i = M at *
  simp -implicitDefEqProofs (disch := omega) only [go_sem, e1, e5, e9, e10, e11, m8, hgi, s1]
  refine callC_at c1 ?_
  simp -implicitDefEqProofs (disch := omega) only [go_sem, e1, e5, e9, e10, e11, m8, hgi, s1]
  refine callC_at c2 ?_
  simp -implicitDefEqProofs (disch := omega) only [go_sem, e1, e5, e9, e10, e11, m8, hgi, s1, s2, hst]
  refine mapUpdateS_mk (kt := 9) (et := 87) (id := 79691904) (e := 84) (l := M) (n := dS o) ?_ ?_ ?_ und_mpe und_str ?_
  · simp -implicitDefEqProofs (disch := omega) only [go_sem, e1, e5, e9, e10, e11, m8, hgi, s1, s2, hst]
  · simp -implicitDefEqProofs (disch := omega) only [go_sem, e1, e5, e9, e10, e11, m8, hgi, s1, s2, hst]
  · simp -implicitDefEqProofs (disch := omega) only [go_sem, e1, e5, e9, e10, e11, m8, hgi, s1, s2, hst, hn]
  simp -implicitDefEqProofs (disch := omega) only [go_sem, e1, e5, e9, e10, e11, m8, hgi, s1, s2, hst, hn]
  rw [u1]
  generalize hM1 : M ++ [(dS o, ENP i q st)] = M1 at *
  refine mapUpdateS_mk (kt := 9) (et := 87) (id := 79691904) (e := 84) (l := M1) (n := dS n) ?_ ?_ ?_ und_mpe und_str ?_
  · simp -implicitDefEqProofs (disch := omega) only [go_sem, e1, e5, e9, e10, e11, m8, hgi, s1, s2, hst, hn1]
  · simp -implicitDefEqProofs (disch := omega) only [go_sem, e1, e5, e9, e10, e11, m8, hgi, s1, s2, hst, hn1]
  · simp -implicitDefEqProofs (disch := omega) only [go_sem, e1, e5, e9, e10, e11, m8, hgi, s1, s2, hst, hn, hn1]
  simp -implicitDefEqProofs (disch := omega) only [go_sem, e1, e5, e9, e10, e11, m8, hgi, s1, s2, hst, hn, hn1]
  rw [u2]
  refine againQ_mk (p.length - (i + 1)) (by omega) ⟨i + 1, by omega, ?_⟩
  rw [hM2]
  simp -implicitDefEqProofs (disch := omega) only [go_sem, e1, e5, e9, e10, e11, m8, hgi, s1, s2, hst, hn, hn1]
  try rfl
end Go.Proofs.YtndhglacgiidbaaGreatDoor
set_option maxRecDepth 100000
namespace Go.Proofs.YtndhglacgiidbaaGreatDoor
open Go.Vai Go Go.Proofs
open Nat (reduceEqDiff reduceMul reduceAdd reduceDiv reduceLeDiff)
open Int (reduceToNat reduceNe reduceEq reduceLT reduceLE)
def lenK (p : List Cd) (i : Nat) (b : Bool) : Nat := if b then 8 else (gd p i).k
def stK (p : List Cd) (i : Nat) (b : Bool) : List Nat := if b then (gd p i).n else stF (gd p i)
theorem entC_iff {p : List Cd} {i : Nat} {q : ByteArray × AV} : q ∈ entC p i ↔ ∃ b, q = (dS (kyP p i b), ENP i (lenK p i b) (stK p i b)) := by
  constructor
  · intro h
    rcases List.mem_cons.1 h with rfl | h
    · exact ⟨false, rfl⟩
    · rw [List.mem_singleton.1 h]; exact ⟨true, rfl⟩
  · rintro ⟨b, rfl⟩
    cases b
    · exact .head _
    · exact .tail _ (.head _)
theorem ent_iff {p : List Cd} {q : ByteArray × AV} {m : Nat} : q ∈ entP p m ↔ ∃ i b, i < m ∧ q = (dS (kyP p i b), ENP i (lenK p i b) (stK p i b)) := by
  rw [entP_mem]
  constructor
  · rintro ⟨j, h1, h2⟩
    obtain ⟨b, h3⟩ := entC_iff.1 h2
    exact ⟨j, b, h1, h3⟩
  · rintro ⟨j, b, h1, h2⟩
    exact ⟨j, h1, entC_iff.2 ⟨b, h2⟩⟩
theorem mget_none {n : ByteArray} : ∀ {l : List (ByteArray × AV)}, (∀ q ∈ l, q.1 ≠ n) → mgetS n l = none
  | [], _ => rfl
  | q :: l, h => by rw [mgetS, if_neg (h q (.head _))]; exact mget_none fun x hx => h x (.tail _ hx)
theorem mget_of {n : ByteArray} {v : AV} : ∀ {l : List (ByteArray × AV)}, (n, v) ∈ l → (∀ q ∈ l, q.1 = n → q.2 = v) → mgetS n l = some v
  | q :: l, h, hu => by
    rw [mgetS]
    by_cases e : q.1 = n
    · rw [if_pos e, hu q (.head _) e]
    · rw [if_neg e]
      rcases List.mem_cons.1 h with rfl | h
      · exact absurd rfl e
      · exact mget_of h fun x hx => hu x (.tail _ hx)
theorem get_at {p : List Cd} (h : PlOK p) {i : Nat} {b : Bool} (hi : i < p.length) : mgetS (dS (kyP p i b)) (entP p p.length) = some (ENP i (lenK p i b) (stK p i b)) := by
  refine mget_of (ent_iff.2 ⟨i, b, hi, rfl⟩) fun q hq e => ?_
  obtain ⟨j, c, hj, rfl⟩ := ent_iff.1 hq
  by_cases hne : (j, c) = (i, b)
  · cases hne; rfl
  · exact absurd e (ky_ne h hj hi hne)
theorem get_no {p : List Cd} (h : PlOK p) {s : List Nat} (hs : Dig s) (hno : ∀ i b, i < p.length → kyP p i b ≠ s) : mgetS (dS s) (entP p p.length) = none :=
  mget_none fun q hq e => by
    obtain ⟨i, b, hi, rfl⟩ := ent_iff.1 hq
    exact hno i b hi (dS_inj (ky_dig h.d hi) hs e)
theorem no_shorter {p : List Cd} (h : PlOK p) {i : Nat} {b : Bool} (hi : i < p.length) {s : List Nat} {v : Nat} (hs : kyP p i b <+: s ∨ s <+: kyP p i b) (hv : v < (kyP p i b).length) (hvs : v ≤ s.length) : ∀ j c, j < p.length → kyP p j c ≠ s.take v := by
  intro j c hj e
  have h2 : s.take v <+: kyP p i b := by
    rcases hs with hs | hs
    · exact List.prefix_of_prefix_length_le (List.take_prefix v s) hs (by rw [List.length_take]; omega)
    · exact (List.take_prefix v s).trans hs
  rw [← e] at h2
  have h3 := ky_one h.v hj hi h2 (List.prefix_refl _)
  cases h3
  have := congrArg List.length e
  rw [List.length_take] at this
  omega
abbrev DIA (k n c u : Int) : AV := .agg [I k, I n, I c, I u]
theorem tz_ent : tz Tryz.prog 87 = some (.agg #[.int .i64 0, .int .i64 0, .string ByteArray.empty]) := by kernel_rfl
theorem of_ent : ofC (.agg #[.int .i64 0, .int .i64 0, .string ByteArray.empty]) = .agg [I 0, I 0, Str ByteArray.empty] := by rfl
set_option maxHeartbeats 4000000 in
theorem read_key (p : List Cd) (h : PlOK p) (i : Nat) (b : Bool) (hi : i < p.length) (s : List Nat) (hs : Dig s) (hsl : s.length ≤ 16) (hpre : kyP p i b <+: s) (hst : (stK p i b).length + (lenK p i b) - (kyP p i b).length ≤ 18) (hk0 : (kyP p i b).length < lenK p i b ∧ lenK p i b ≤ 8) (hst0 : stK p i b ≠ []) (hsd : Dig (stK p i b)) :
    Ev Tryz.prog 10 [CDS p, Str (dS s), I 2] (.tup [if s.length < lenK p i b then DIA 1 0 0 0 else DIA 2 (val (stK p i b ++ (s.take (lenK p i b)).drop (kyP p i b).length)) i (lenK p i b), I 0]) := by
  have c1 := valid_ev' p h
  have c2 := isDig_ev s hs (by omega)
  have c3 := phase_ev 2 (by omega)
  have c4 := entries_ev p h
  have sS := dS_size s
  have hget := get_at h (b := b) hi
  have hnone : ∀ v, v < (kyP p i b).length → mgetS (dS (s.take v)) (entP p p.length) = none := fun v hv => by
    have := hpre.length_le
    exact get_no h (hs.take v) (no_shorter h hi (.inl hpre) hv (by omega))
  have hkl : (kyP p i b).length ≤ s.length := hpre.length_le
  have htk : s.take (kyP p i b).length = kyP p i b := (List.prefix_iff_eq_take.1 hpre).symm
  rw [← htk] at hget
  have hx : ∀ v, (dS s).extract 0 v = dS (s.take v) := fun v => by rw [dS_extract, List.drop_zero, Nat.sub_zero]
  have h20 := (validP_iff.1 h.v).1
  generalize entP p p.length = M at *
  generalize kyP p i b = κ at *
  generalize stK p i b = st at *
  generalize lenK p i b = L at *
  refine ev_ofI [] Tryz.func10 rfl (by kernel_rfl) mo (Nat.le_of_ble_eq_true rfl) ?_
  simp -implicitDefEqProofs (disch := omega) only [go_sem, Tryz.ntmps10]
  refine callC_at c1 ?_
  simp -implicitDefEqProofs (disch := omega) only [go_sem, sS]
  refine callC_at c2 ?_
  simp -implicitDefEqProofs (disch := omega) only [go_sem, sS]
  refine branch_r (by omega) ?_
  simp -implicitDefEqProofs (disch := omega) only [go_sem, sS]
  refine callC_at c3 ?_
  simp -implicitDefEqProofs (disch := omega) only [go_sem, sS]
  refine callC_at c4 ?_
  simp -implicitDefEqProofs (disch := omega) only [go_sem, sS]
  clear c1 c2 c3 c4
  refine loopC_mk (fun n E σ => ∃ v : Nat, v + n = s.length + 1 ∧ v ≤ κ.length ∧ E 1 = Str (dS s) ∧ E 6 = .ptr 23068768 4 0 0 ∧ E 8 = .mp (M.map entS) ∧ E 39 = I ((s.length : Int) + 1) ∧ E 40 = I v ∧ σ 23068768 = some ⟨39, 4, [DIA 0 0 0 0]⟩) (s.length + 1) ⟨0, by omega, by omega, ?_⟩ ?_
  · simp -implicitDefEqProofs (disch := omega) only [go_sem, sS]
    try ((repeat' apply And.intro) <;> rfl)
  rintro n E σ ⟨v, hv, hvk, e1, e6, e8, e39, e40, m6⟩
  simp -implicitDefEqProofs (disch := omega) only [go_sem, e1, e6, e8, e39, e40, m6]
  refine branch_l (by omega) ?_
  have hxv := hx v
  simp -implicitDefEqProofs (disch := omega) only [go_sem, e1, e6, e8, e39, e40, m6, sS, hxv]
  refine lookupF_mk (l := M) (n := dS (s.take v)) (kt := 9) (et := 87) (z := .agg #[.int .i64 0, .int .i64 0, .string ByteArray.empty]) ?_ ?_ und_mpe und_str tz_ent (fun w hw => ?_) (fun hw => ?_)
  · simp -implicitDefEqProofs (disch := omega) only [go_sem, e1, e6, e8, e39, e40, m6, sS, hxv]
  · simp -implicitDefEqProofs (disch := omega) only [go_sem, e1, e6, e8, e39, e40, m6, sS, hxv]
  rotate_left
  · have hlt : v < κ.length := by
      rcases Nat.lt_or_ge v κ.length with hh | hh
      · exact hh
      · obtain rfl : v = κ.length := by omega
        rw [hget] at hw; cases hw
    simp -implicitDefEqProofs (disch := omega) only [go_sem, e1, e6, e8, e39, e40, m6, sS, hxv, of_ent]
    refine againQ_mk (s.length + 1 - (v + 1)) (by omega) ⟨v + 1, by omega, by omega, ?_⟩
    simp -implicitDefEqProofs (disch := omega) only [go_sem, e1, e6, e8, e39, e40, m6, sS, hxv, of_ent]
    try ((repeat' apply And.intro) <;> rfl)
  obtain rfl : v = κ.length := by
    rcases Nat.lt_or_ge v κ.length with hh | hh
    · rw [hnone v hh] at hw; cases hw
    · omega
  obtain rfl := Option.some.inj (hw.symm.trans hget)
  clear hget hnone hw
  simp -implicitDefEqProofs (disch := omega) only [go_sem, e1, e6, e8, e39, e40, m6, sS, hxv]
  refine branch_mk (fun hc => ?_) (fun hc => ?_)
  · rw [if_pos (by omega)]
    simp -implicitDefEqProofs (disch := omega) only [go_sem, e1, e6, e8, e39, e40, m6, sS, hxv, Tryz.results10]
  rw [if_neg (by omega)]
  have hy : (dS s).extract κ.length L = dS ((s.take L).drop κ.length) := by rw [dS_extract, List.drop_take]
  have hap := dS_append st ((s.take L).drop κ.length)
  have s1 := dS_size st
  have s2 := dS_size ((s.take L).drop κ.length)
  rw [List.length_drop, List.length_take] at s2
  have c5 := atoi_ev (st ++ (s.take L).drop κ.length) (hsd.app ((hs.take L).drop _)) (by simp [hst0]) (by rw [List.length_append, List.length_drop, List.length_take]; omega)
  generalize (s.take L).drop κ.length = t at *
  simp -implicitDefEqProofs (disch := omega) only [go_sem, e1, e6, e8, e39, e40, m6, sS, hxv, hy, hap, s1, s2]
  refine callC_at c5 ?_
  simp -implicitDefEqProofs (disch := omega) only [go_sem, e1, e6, e8, e39, e40, m6, sS, hxv, hy, hap, s1, s2, Tryz.results10]
theorem kill_itB (p : Nat → Bool) (r : Nat) (ks : List AV) (k : Value) : AV.kill p (itA r ks (.v k)) = itA r ks (.v k) := kill_of_not (itA_names p r ks k)
set_option maxHeartbeats 4000000 in
theorem read_more (p : List Cd) (h : PlOK p) (i : Nat) (b : Bool) (hi : i < p.length) (s : List Nat) (hs : Dig s) (hpre : s <+: kyP p i b) (hlt : s.length < (kyP p i b).length) (hk5 : (kyP p i b).length ≤ 5) :
    Ev Tryz.prog 10 [CDS p, Str (dS s), I 2] (.tup [DIA 1 0 0 0, I 0]) := by
  have c1 := valid_ev' p h
  have c2 := isDig_ev s hs (by omega)
  have c3 := phase_ev 2 (by omega)
  have c4 := entries_ev p h
  have sS := dS_size s
  have hnone : ∀ v, v ≤ s.length → mgetS (dS (s.take v)) (entP p p.length) = none := fun v hv =>
    get_no h (hs.take v) (no_shorter h hi (.inr hpre) (by omega) hv)
  have hx : ∀ v, (dS s).extract 0 v = dS (s.take v) := fun v => by rw [dS_extract, List.drop_zero, Nat.sub_zero]
  have h20 := (validP_iff.1 h.v).1
  have hmem : (dS (kyP p i b), ENP i (lenK p i b) (stK p i b)) ∈ entP p p.length := ent_iff.2 ⟨i, b, hi, rfl⟩
  have hkey : ∀ q ∈ entP p p.length, ∃ t : List Nat, q.1 = dS t ∧ Ev Tryz.prog 33 [Str q.1, Str (dS s)] (B (s.isPrefixOf t)) := fun q hq => by
    obtain ⟨j, c, hj, rfl⟩ := ent_iff.1 hq
    have hl := h.len hj
    exact ⟨_, rfl, has_ev _ s (ky_dig h.d hj) hs (by unfold kyP; split <;> omega) (by omega)⟩
  have hyes : s.isPrefixOf (kyP p i b) = true := List.isPrefixOf_iff_prefix.2 hpre
  have hkd := ky_dig h.d hi (b := b)
  have hinj : ∀ t, dS (kyP p i b) = dS t → Ev Tryz.prog 33 [Str (dS t), Str (dS s)] (B true) := fun t e => by
    rw [← e, ← hyes]
    exact has_ev _ s hkd hs (by omega) (by omega)
  generalize entP p p.length = M at *
  generalize ENP i (lenK p i b) (stK p i b) = v0 at *
  generalize kyP p i b = κ at *
  refine ev_ofI [] Tryz.func10 rfl (by kernel_rfl) mo (Nat.le_of_ble_eq_true rfl) ?_
  simp -implicitDefEqProofs (disch := omega) only [go_sem, Tryz.ntmps10]
  refine callC_at c1 ?_
  simp -implicitDefEqProofs (disch := omega) only [go_sem, sS]
  refine callC_at c2 ?_
  simp -implicitDefEqProofs (disch := omega) only [go_sem, sS]
  refine branch_r (by omega) ?_
  simp -implicitDefEqProofs (disch := omega) only [go_sem, sS]
  refine callC_at c3 ?_
  simp -implicitDefEqProofs (disch := omega) only [go_sem, sS]
  refine callC_at c4 ?_
  simp -implicitDefEqProofs (disch := omega) only [go_sem, sS]
  clear c1 c2 c3 c4
  refine loopC_mk (fun n E σ => ∃ v : Nat, v + n = s.length + 1 ∧ E 1 = Str (dS s) ∧ E 6 = .ptr 23068768 4 0 0 ∧ E 8 = .mp (M.map entS) ∧ E 39 = I ((s.length : Int) + 1) ∧ E 40 = I v ∧ σ 23068768 = some ⟨39, 4, [DIA 0 0 0 0]⟩) (s.length + 1) ⟨0, by omega, ?_⟩ ?_
  · simp -implicitDefEqProofs (disch := omega) only [go_sem, sS]
    try ((repeat' apply And.intro) <;> rfl)
  rintro n E σ ⟨v, hv, e1, e6, e8, e39, e40, m6⟩
  simp -implicitDefEqProofs (disch := omega) only [go_sem, e1, e6, e8, e39, e40, m6]
  refine branch_mk (fun hc => ?_) (fun hc => ?_)
  · have hxv := hx v
    simp -implicitDefEqProofs (disch := omega) only [go_sem, e1, e6, e8, e39, e40, m6, sS, hxv]
    refine lookupF_mk (l := M) (n := dS (s.take v)) (kt := 9) (et := 87) (z := .agg #[.int .i64 0, .int .i64 0, .string ByteArray.empty]) ?_ ?_ und_mpe und_str tz_ent (fun w hw => ?_) (fun hw => ?_)
    · simp -implicitDefEqProofs (disch := omega) only [go_sem, e1, e6, e8, e39, e40, m6, sS, hxv]
    · simp -implicitDefEqProofs (disch := omega) only [go_sem, e1, e6, e8, e39, e40, m6, sS, hxv]
    · rw [hnone v (by omega)] at hw; cases hw
    simp -implicitDefEqProofs (disch := omega) only [go_sem, e1, e6, e8, e39, e40, m6, sS, hxv, of_ent]
    refine againQ_mk (s.length + 1 - (v + 1)) (by omega) ⟨v + 1, by omega, ?_⟩
    simp -implicitDefEqProofs (disch := omega) only [go_sem, e1, e6, e8, e39, e40, m6, sS, hxv, of_ent]
    try ((repeat' apply And.intro) <;> rfl)
  simp -implicitDefEqProofs (disch := omega) only [go_sem, e1, e6, e8, e39, e40, m6]
  refine rangeMap_mk (l := M) (fun q => .string q.1) (fun q => q.2) (kt := 9) (et := 87) rfl ?_ ?_ und_mpe fun r => ?_
  · simp -implicitDefEqProofs (disch := omega) only [go_sem, e1, e6, e8, e39, e40, m6]
  · intro e; subst e; cases hmem
  simp -implicitDefEqProofs (disch := omega) only [go_sem, e1, e6, e8, e39, e40, m6]
  refine loopC_mk (fun k E σ => ∃ (q : List (ByteArray × AV)) (last : AV), k = q.length ∧ (∀ x ∈ q, x ∈ M) ∧ (dS κ, v0) ∈ q ∧ E 1 = Str (dS s) ∧ E 6 = .ptr 23068768 4 0 0 ∧ E 79 = .v (.pointer (some ⟨r, 0, none⟩)) ∧ E 89 = itA r (q.map fun x => AV.v (.string x.1)) last ∧ σ 23068768 = some ⟨39, 4, [DIA 0 0 0 0]⟩) M.length ⟨M, .any, rfl, fun _ h => h, hmem, ?_⟩ ?_
  · simp -implicitDefEqProofs (disch := omega) only [go_sem, e1, e6, e8, e39, e40, m6]
    try ((repeat' apply And.intro) <;> rfl)
  clear e1 e6 e8 e39 e40 m6 E σ
  rintro k E σ ⟨q, last, hk, hq, hin, e1, e6, e79, e89, m6⟩
  simp -implicitDefEqProofs (disch := omega) only [go_sem, e1, e6, e79, e89, m6]
  refine next_mk rfl (by simp -implicitDefEqProofs (disch := omega) only [go_sem, e79]) e89 (fun hq0 => ?_) (fun l1 kv l2 hq1 => ?_)
  · exfalso
    cases q with
    | nil => cases hin
    | cons x q => cases hq0
  obtain ⟨q1, x, q2, rfl, rfl, rfl, rfl⟩ : ∃ q1 x q2, q = q1 ++ x :: q2 ∧ l1 = q1.map (fun x => AV.v (.string x.1)) ∧ kv = .string x.1 ∧ l2 = q2.map (fun x => AV.v (.string x.1)) := by
    obtain ⟨q1, q', h1, h2, h3⟩ := List.map_eq_append_iff.1 hq1
    obtain ⟨x, q2, h4, h5, h6⟩ := List.map_eq_cons_iff.1 h3
    exact ⟨q1, x, q2, by rw [h1, h4], h2.symm, by cases h5; rfl, h6.symm⟩
  simp -implicitDefEqProofs (disch := omega) only [go_sem, e1, e6, e79, m6]
  refine entry_mk (r := r) (ks := q1.map (fun x => AV.v (.string x.1)) ++ q2.map fun x => AV.v (.string x.1)) (k := .string x.1) rfl (by simp -implicitDefEqProofs (disch := omega) only [go_sem, e79]) (by simp -implicitDefEqProofs (disch := omega) only [go_sem]) ?_
  simp -implicitDefEqProofs (disch := omega) only [go_sem, e1, e6, e79, m6]
  obtain ⟨t, ht, ct⟩ := hkey x (hq x (by simp))
  by_cases hxk : dS κ = x.1
  · have c := hinj t (hxk.trans ht)
    rw [← ht] at c
    refine callC_at c ?_
    simp -implicitDefEqProofs (disch := omega) only [go_sem, e1, e6, e79, m6, kill_itB, Tryz.results10]
  generalize s.isPrefixOf t = y at ct
  refine callC_at ct ?_
  cases y
  · simp -implicitDefEqProofs (disch := omega) only [go_sem, e1, e6, e79, m6, kill_itB]
    refine againQ_mk (q1 ++ q2).length (by rw [hk]; simp) ⟨q1 ++ q2, .v (.string x.1), rfl, fun z hz => hq z ?_, ?_, ?_⟩
    · rcases List.mem_append.1 hz with hz | hz <;> simp [hz]
    · rcases List.mem_append.1 hin with hz | hz
      · exact List.mem_append_left _ hz
      · rcases List.mem_cons.1 hz with hz | hz
        · exact absurd (congrArg Prod.fst hz) hxk
        · exact List.mem_append_right _ hz
    · rw [List.map_append]
      simp -implicitDefEqProofs (disch := omega) only [go_sem, e1, e6, e79, m6, kill_itB]
      try ((repeat' apply And.intro) <;> rfl)
  · simp -implicitDefEqProofs (disch := omega) only [go_sem, e1, e6, e79, m6, kill_itB, Tryz.results10]
end Go.Proofs.YtndhglacgiidbaaGreatDoor
set_option maxRecDepth 100000
namespace Go.Proofs.YtndhglacgiidbaaGreatDoor
open Go.Vai Go Go.Proofs
open Nat (reduceEqDiff reduceMul reduceAdd reduceDiv reduceLeDiff)
open Int (reduceToNat reduceNe reduceEq reduceLT reduceLE)
theorem reads_ev (p : List Cd) (s : ByteArray) (n c : Int) (h : Ev Tryz.prog 10 [CDS p, Str s, I 2] (.tup [DIA 2 n c s.size, I 0])) : Ev Tryz.prog 35 [Str s, .pt (CDS p) 0] (.tup [I n, B true]) := by
  refine ev_of Tryz.func35 rfl (by kernel_rfl) mo (Nat.le_of_ble_eq_true rfl) ?_
  simp -implicitDefEqProofs (disch := omega) only [go_sem, Tryz.ntmps35]
  refine callC_at h ?_
  simp -implicitDefEqProofs (disch := omega) only [go_sem, beq_self_eq_true, Tryz.results35]
theorem same_ev' (p : List Cd) (a b : ByteArray) (n c : Int) (ha : Ev Tryz.prog 10 [CDS p, Str a, I 2] (.tup [DIA 2 n c a.size, I 0])) (hb : Ev Tryz.prog 10 [CDS p, Str b, I 2] (.tup [DIA 2 n c b.size, I 0])) : Ev Tryz.prog 9 [CDS p, Str a, Str b] (B true) := by
  have c1 := reads_ev p a n c ha
  have c2 := reads_ev p b n c hb
  refine ev_of Tryz.func9 rfl (by kernel_rfl) mo (Nat.le_of_ble_eq_true rfl) ?_
  simp -implicitDefEqProofs (disch := omega) only [go_sem, Tryz.ntmps9]
  refine callC_at c1 ?_
  simp -implicitDefEqProofs (disch := omega) only [go_sem]
  refine callC_at c2 ?_
  simp -implicitDefEqProofs (disch := omega) only [go_sem, beq_self_eq_true, Tryz.results9]
theorem has_in (l : List Int) (n : Int) (hl : l.length ≤ 1000) (h : n ∈ l) : Ev Tryz.prog 20 [SL l, I n] (B true) := by
  refine ev_of Tryz.func20 rfl (by kernel_rfl) mo (Nat.le_of_ble_eq_true rfl) ?_
  simp -implicitDefEqProofs (disch := omega) only [go_sem, Tryz.ntmps20]
  refine loopC_mk (fun m E σ => ∃ v : Nat, v + m = l.length ∧ E 0 = SL l ∧ E 1 = I n ∧ E 5 = I v ∧ n ∈ l.drop v) l.length ⟨0, by omega, ?_⟩ ?_
  · simp -implicitDefEqProofs (disch := omega) only [go_sem]
    exact ⟨rfl, by simpa using h⟩
  rintro m E σ ⟨v, hv, e0, e1, e5, hin⟩
  have hvl : v < l.length := by
    rcases Nat.lt_or_ge v l.length with hh | hh
    · exact hh
    · rw [List.drop_eq_nil_of_le hh] at hin; cases hin
  simp -implicitDefEqProofs (disch := omega) only [go_sem, e0, e1, e5]
  refine branch_l (by omega) ?_
  simp -implicitDefEqProofs (disch := omega) only [go_sem, e0, e1, e5]
  refine branch_mk (fun hc => ?_) (fun hc => ?_)
  · simp -implicitDefEqProofs (disch := omega) only [go_sem, e0, e1, e5, Tryz.results20]
  simp -implicitDefEqProofs (disch := omega) only [go_sem, e0, e1, e5]
  refine againQ_mk (l.length - (v + 1)) (by omega) ⟨v + 1, by omega, ?_⟩
  simp -implicitDefEqProofs (disch := omega) only [go_sem, e0, e1, e5]
  refine ⟨by simp, ?_⟩
  have hd : l.drop v = gd l v :: l.drop (v + 1) := by
    rw [List.drop_eq_getElem_cons hvl]
    congr 1
    unfold gd; simp [hvl]
  rw [hd] at hin
  rcases List.mem_cons.1 hin with rfl | hin
  · exact absurd rfl hc
  · exact hin
end Go.Proofs.YtndhglacgiidbaaGreatDoor
set_option maxRecDepth 100000
namespace Go.Proofs.YtndhglacgiidbaaGreatDoor
open Go.Vai Go Go.Proofs
open Nat (reduceEqDiff reduceMul reduceAdd reduceDiv reduceLeDiff)
open Int (reduceToNat reduceNe reduceEq reduceLT reduceLE)
abbrev QP (q : Q4) : AV := .agg [I q.a, I q.b, I q.c, I q.d]
abbrev QL (x : List Q4) : AV := .sl 4 (x.map QP)
def Q4.ok (q : Q4) : Prop := R64 q.a ∧ R64 q.b ∧ R64 q.c ∧ R64 q.d
section
variable (p : Nat → Bool) (l : List Q4)
@[go_sem] theorem namesL_QP : AV.namesL p (l.map QP) = false := namesL_map p l QP fun _ => rfl
@[go_sem] theorem flatL_QP : AV.flatL (l.map QP) = true := flatL_map l QP fun _ => rfl
@[go_sem] theorem allOK_QP : allOK 4 (l.map QP) = true := allOK_map 4 l QP fun _ => ⟨rfl, rfl⟩
end
section
variable (F T : Int)
def frU (x : Q4) : Int := F + pickF x.a (T - F)
def toU (x : Q4) : Int := frU F T x + 1 + pickF x.b (T - frU F T x)
def updU : List Q4 → Int → List Up
  | [], _ => []
  | x :: l, t => ⟨frU F T x, toU F T x, pickF x.c 9 - 1, t + pickF x.d 4⟩ :: updU l (t + pickF x.d 4)
def updF (x : List Q4) : List Up := updU F T (x.take 12) 0
def tmU : List Q4 → Int → Int
  | [], t => t
  | x :: l, t => tmU l (t + pickF x.d 4)
theorem tmU_in : ∀ (l : List Q4) (t : Int), t ≤ tmU l t ∧ tmU l t ≤ t + 3 * l.length
  | [], t => by simp [tmU]
  | x :: l, t => by
    have h := pickF_in (c := x.d) (n := 4) (by omega)
    have ih := tmU_in l (t + pickF x.d 4)
    rw [tmU, List.length_cons]
    omega
theorem upd_snoc : ∀ (l : List Q4) (t : Int) (x : Q4), updU F T (l ++ [x]) t = updU F T l t ++ [⟨frU F T x, toU F T x, pickF x.c 9 - 1, tmU l t + pickF x.d 4⟩] ∧ tmU (l ++ [x]) t = tmU l t + pickF x.d 4
  | [], t, x => ⟨rfl, rfl⟩
  | y :: l, t, x => by
    obtain ⟨h1, h2⟩ := upd_snoc l (t + pickF y.d 4) x
    exact ⟨by rw [List.cons_append, updU, h1, updU, tmU]; rfl, by rw [List.cons_append, tmU, h2, tmU]⟩
theorem updU_len : ∀ (l : List Q4) (t : Int), (updU F T l t).length = l.length
  | [], _ => rfl
  | _ :: l, t => by rw [updU, List.length_cons, updU_len l, List.length_cons]
theorem updF_len (x : List Q4) : (updF F T x).length ≤ 12 := by unfold updF; rw [updU_len, List.length_take]; omega
variable (h : 0 ≤ F ∧ F < T ∧ T ≤ 100000000)
include h
theorem frU_in (x : Q4) : F ≤ frU F T x ∧ frU F T x < T := by
  have := pickF_in (c := x.a) (n := T - F) (by omega)
  unfold frU; omega
theorem toU_in (x : Q4) : frU F T x < toU F T x ∧ toU F T x ≤ T := by
  have h1 := frU_in F T h x
  have := pickF_in (c := x.b) (n := T - frU F T x) (by omega)
  unfold toU; omega
theorem updU_ok : ∀ (l : List Q4) (t : Int), 0 ≤ t → t + 3 * l.length ≤ 100 → timesB t (updU F T l t) = true ∧ ∀ u ∈ updU F T l t, (rOK u.f u.t ∧ -1 ≤ u.c ∧ u.c ≤ 7) ∧ 0 ≤ u.a ∧ u.a ≤ 100
  | [], _, _, _ => ⟨rfl, fun _ h => by cases h⟩
  | x :: l, t, h0, hl => by
    have h1 := pickF_in (c := x.d) (n := 4) (by omega)
    have h2 := pickF_in (c := x.c) (n := 9) (by omega)
    have h5 := frU_in F T h x
    have h6 := toU_in F T h x
    simp only [List.length_cons] at hl
    obtain ⟨h3, h4⟩ := updU_ok l (t + pickF x.d 4) (by omega) (by omega)
    rw [updU]
    refine ⟨?_, fun u hu => ?_⟩
    · simp only [timesB, Bool.and_eq_true, decide_eq_true_eq]
      exact ⟨by omega, by omega, h3⟩
    · rcases List.mem_cons.1 hu with rfl | hu
      · exact ⟨⟨by simp only; unfold rOK; omega, by simp only; omega, by simp only; omega⟩, by simp only; omega, by simp only; omega⟩
      · exact h4 u hu
theorem updF_valid (x : List Q4) : validT (updF F T x) = true := by
  have hl := updF_len F T x
  have hok := updU_ok F T h (x.take 12) 0 (by omega) (by rw [List.length_take]; omega)
  refine validT_iff.2 ⟨by omega, hok.1, mapsF_all _ _ rfl (by simp; omega) fun i hi => ?_⟩
  obtain ⟨⟨h1, h2, h3⟩, _⟩ := hok.2 _ (gd_mem (updF F T x) i hi)
  refine ⟨h1, ?_⟩
  by_cases e : (gd (updF F T x) i).c = -1
  · exact .inl e
  · exact .inr ⟨by omega, by omega⟩
end
set_option maxHeartbeats 1000000 in
theorem updates_ev (F T : Int) (h : 0 ≤ F ∧ F < T ∧ T ≤ 100000000) (x : List Q4) (hx : ∀ q ∈ x, q.ok) (hn : x.length ≤ 9223372036854775807) : Ev Tryz.prog 11 [.agg [I F, I T], QL x] (UPS (updF F T x)) := by
  refine ev_sl (r := .new 91 4 ((updF F T x).map UP)) ?_ _
  refine ev_of Tryz.func11 rfl (by kernel_rfl) mo (Nat.le_of_ble_eq_true rfl) ?_
  simp -implicitDefEqProofs (disch := omega) only [go_sem, Tryz.ntmps11]
  refine loopC_mk (fun n E σ => ∃ i : Nat, i + n = 12 ∧ i ≤ x.length ∧ E 1 = QL x ∧ E 2 = .ptr 25165856 2 0 0 ∧ σ 25165856 = some ⟨30, 2, [.agg [I F, I T]]⟩ ∧ E 5 = .own 25165904 4 0 i ∧ E 6 = I (tmU (x.take i) 0) ∧ E 7 = I i ∧ σ 25165904 = some ⟨91, 4, (updU F T (x.take i) 0).map UP⟩) 12 ⟨0, by omega, by omega, ?_⟩ ?_
  · simp -implicitDefEqProofs (disch := omega) only [go_sem]
    try ((repeat' apply And.intro) <;> rfl)
  rintro n E σ ⟨i, hn, hi, e1, e2, m2, e5, e6, e7, m5⟩
  have fin : i = 12 ∨ i = x.length → updF F T x = updU F T (x.take i) 0 := fun h => by
    unfold updF
    rcases h with rfl | rfl
    · rfl
    · rw [List.take_length, List.take_of_length_le (by omega)]
  simp -implicitDefEqProofs (disch := omega) only [go_sem, e1, e2, m2, e5, e6, e7, m5]
  have hlen := updU_len F T (x.take i) 0
  rw [List.length_take, Nat.min_eq_left hi] at hlen
  refine branch_mk (fun hc => ?_) (fun hc => ?_)
  · simp -implicitDefEqProofs (disch := omega) only [go_sem, e1, e2, m2, e5, e6, e7, m5]
    refine branch_mk (fun hc2 => ?_) (fun hc2 => ?_)
    · have hq := hx _ (gd_mem x i (by omega))
      obtain ⟨hm, htm⟩ := upd_snoc F T (x.take i) 0 (gd x i)
      rw [← take_succ' x i (by omega)] at hm htm
      have htb := tmU_in (x.take i) 0
      have hp1 := pickF_in (c := (gd x i).d) (n := 4) (by omega)
      have hp2 := pickF_in (c := (gd x i).c) (n := 9) (by omega)
      have hf := frU_in F T h (gd x i)
      have ht := toU_in F T h (gd x i)
      have hlt : (x.take i).length ≤ 12 := by rw [List.length_take]; omega
      have c1 := pickT_ev (gd x i).a (T - F) hq.1 (by omega)
      have c2 := pickT_ev (gd x i).d 4 hq.2.2.2 (by omega)
      have c3 := pickT_ev (gd x i).b (T - frU F T (gd x i)) hq.2.1 (by omega)
      have c4 := pickT_ev (gd x i).c 9 hq.2.2.1 (by omega)
      have hfr : F + pickF (gd x i).a (T - F) = frU F T (gd x i) := rfl
      have hto : frU F T (gd x i) + 1 + pickF (gd x i).b (T - frU F T (gd x i)) = toU F T (gd x i) := rfl
      have hpa := pickF_in (c := (gd x i).a) (n := T - F) (by omega)
      have hpb := pickF_in (c := (gd x i).b) (n := T - frU F T (gd x i)) (by omega)
      generalize pickF (gd x i).a (T - F) = pa at *
      generalize pickF (gd x i).b (T - frU F T (gd x i)) = pb at *
      generalize pickF (gd x i).d 4 = pd at *
      generalize pickF (gd x i).c 9 = pc at *
      generalize frU F T (gd x i) = fr at *
      generalize toU F T (gd x i) = tq at *
      generalize tmU (x.take i) 0 = tm at *
      generalize updU F T (x.take i) 0 = o at *
      simp -implicitDefEqProofs (disch := omega) only [go_sem, e1, e2, m2, e5, e6, e7, m5]
      refine callC_at c1 ?_
      simp -implicitDefEqProofs (disch := omega) only [go_sem, e1, e2, m2, e5, e6, e7, m5, hfr]
      refine callC_at c2 ?_
      simp -implicitDefEqProofs (disch := omega) only [go_sem, e1, e2, m2, e5, e6, e7, m5, hfr]
      refine callC_at c3 ?_
      simp -implicitDefEqProofs (disch := omega) only [go_sem, e1, e2, m2, e5, e6, e7, m5, hfr, hto]
      refine callC_at c4 ?_
      simp -implicitDefEqProofs (disch := omega) only [go_sem, e1, e2, m2, e5, e6, e7, m5, hfr, hto]
      refine againQ_mk (12 - (i + 1)) (by omega) ⟨i + 1, by omega, by omega, ?_⟩
      simp -implicitDefEqProofs (disch := omega) only [go_sem, e1, e2, m2, e5, e6, e7, m5, htm, hm, hto]
      try ((repeat' apply And.intro) <;> rfl)
    · rw [fin (.inl (by omega))]
      simp -implicitDefEqProofs (disch := omega) only [go_sem, e1, e2, m2, e5, e6, e7, m5, Tryz.results11]
  · rw [fin (.inr (by omega))]
    have hlen3 : (updU F T x 0).length = i := by rw [updU_len]; omega
    simp -implicitDefEqProofs (disch := omega) only [go_sem, e1, e2, m2, e5, e6, e7, m5, Tryz.results11]
end Go.Proofs.YtndhglacgiidbaaGreatDoor
set_option maxRecDepth 100000
namespace Go.Proofs.YtndhglacgiidbaaGreatDoor
open Go.Vai Go Go.Proofs
open Nat (reduceEqDiff reduceMul reduceAdd reduceDiv reduceLeDiff)
open Int (reduceToNat reduceNe reduceEq reduceLT reduceLE)
theorem wide {n : List Nat} {z k r : Nat} (hn : Dig n) (hl : n.length + z + k = 8) (hr : r < 10 ^ k) : dgN 8 (val n * 10 ^ (8 - n.length) + r) = n ++ (zer z ++ dgN k r) := by
  have hd : Dig (n ++ (zer z ++ dgN k r)) := hn.app ((zer_dig z).app (dgN_dig k r))
  have hlen : (n ++ (zer z ++ dgN k r)).length = 8 := by
    rw [List.length_append, List.length_append, List.length_replicate, dgN_length]; omega
  have hval : val (n ++ (zer z ++ dgN k r)) = val n * 10 ^ (8 - n.length) + r := by
    rw [val_app, val_app, val_zer, val_dgN k r hr, List.length_append, List.length_replicate, dgN_length, show 8 - n.length = z + k from by omega]; omega
  have hlt := val_lt hd
  rw [hval, hlen] at hlt
  exact val_inj (dgN_dig 8 _) hd (by rw [dgN_length, hlen]) (by rw [val_dgN 8 _ hlt, hval])
def RdOK (p : List Cd) (N i : Nat) (s : List Nat) : Prop := Dig s ∧ s.length ≤ 8 ∧ 1 ≤ s.length ∧ Ev Tryz.prog 10 [CDS p, Str (dS s), I 2] (.tup [DIA 2 N i s.length, I 0]) ∧ ∀ k, k < s.length → Ev Tryz.prog 10 [CDS p, Str (dS (s.take k)), I 2] (.tup [DIA 1 0 0 0, I 0])
theorem rd_of {p : List Cd} (h : PlOK p) {i : Nat} {b : Bool} (hi : i < p.length) {s : List Nat} {N : Nat} (hs : Dig s) (hpre : kyP p i b <+: s) (hl : s.length = lenK p i b) (hL : (kyP p i b).length < lenK p i b ∧ lenK p i b ≤ 8) (hk5 : 1 ≤ (kyP p i b).length ∧ (kyP p i b).length ≤ 5) (hst : (stK p i b).length ≤ 8) (hst0 : stK p i b ≠ []) (hsd : Dig (stK p i b)) (hN : val (stK p i b ++ s.drop (kyP p i b).length) = N) : RdOK p N i s := by
  refine ⟨hs, by omega, by omega, ?_, fun k hk => ?_⟩
  · have := read_key p h i b hi s hs (by omega) hpre (by omega) hL hst0 hsd
    rw [if_neg (by omega), ← hl, List.take_length, hN] at this
    exact this
  · by_cases hkk : (kyP p i b).length ≤ k
    · have hp2 : kyP p i b <+: s.take k := List.prefix_of_prefix_length_le hpre (List.take_prefix k s) (by rw [List.length_take]; omega)
      have := read_key p h i b hi (s.take k) (hs.take k) (by rw [List.length_take]; omega) hp2 (by omega) hL hst0 hsd
      rw [if_pos (by rw [List.length_take]; omega)] at this
      exact this
    · have hp2 : s.take k <+: kyP p i b := List.prefix_of_prefix_length_le (List.take_prefix k s) hpre (by rw [List.length_take]; omega)
      exact read_more p h i b hi (s.take k) (hs.take k) hp2 (by rw [List.length_take]; omega) hk5.2
theorem forms (p : List Cd) (h : PlOK p) (i : Nat) (hi : i < p.length) (r : Nat) (hr : r < 10 ^ ((gd p i).k - (gd p i).o.length)) : ∃ s1 s2 : List Nat, s1 ≠ s2 ∧
    Ev Tryz.prog 8 [CDS p, I ((frC (gd p i) + r : Nat) : Int), I 1] (.tup [Str (dS s1), I 0]) ∧ Ev Tryz.prog 8 [CDS p, I ((frC (gd p i) + r : Nat) : Int), I 3] (.tup [Str (dS s2), I 0]) ∧
    RdOK p (frC (gd p i) + r) i s1 ∧ RdOK p (frC (gd p i) + r) i s2 ∧ Ev Tryz.prog 9 [CDS p, Str (dS s1), Str (dS s2)] (B true) := by
  obtain ⟨l1, l2, l3, l4⟩ := h.len hi
  have hd := digP_at h.d hi
  have hfr := frC_le hd.2 (by omega)
  have hW := wide (n := (gd p i).n) (z := 8 - (gd p i).n.length - ((gd p i).k - (gd p i).o.length)) (k := (gd p i).k - (gd p i).o.length) (r := r) hd.2 (by omega) hr
  have hNd : frC (gd p i) + r = val (gd p i).n * 10 ^ (8 - (gd p i).n.length) + r := rfl
  have hrl : r < 10 ^ (8 - (gd p i).n.length) := Nat.lt_of_lt_of_le hr (pow_le (by omega))
  have hN : frC (gd p i) + r < 100000000 := by omega
  rw [← hNd] at hW
  have hval := val_dgN 8 _ hN
  generalize frC (gd p i) + r = N at *
  have hdr := dgN_dig ((gd p i).k - (gd p i).o.length) r
  have hrlen := dgN_length ((gd p i).k - (gd p i).o.length) r
  have hW8 := dgN_length 8 N
  have hWd := dgN_dig 8 N
  have hzl : (zer (8 - (gd p i).n.length - ((gd p i).k - (gd p i).o.length))).length = 8 - (gd p i).n.length - ((gd p i).k - (gd p i).o.length) := List.length_replicate ..
  have hzd := zer_dig (8 - (gd p i).n.length - ((gd p i).k - (gd p i).o.length))
  have w1 := fun ph hh => write_ev p h i hi N hN (by rw [hW]; exact List.prefix_append _ _) ph hh
  have hdrop : (dgN 8 N).drop (8 - ((gd p i).k - (gd p i).o.length)) = dgN ((gd p i).k - (gd p i).o.length) r := by
    rw [hW, ← List.append_assoc, List.drop_left' (by rw [List.length_append, hzl]; omega)]
  have hz : ((dgN 8 N).take (8 - ((gd p i).k - (gd p i).o.length))).drop (gd p i).n.length = zer (8 - ((gd p i).k - (gd p i).o.length) - (gd p i).n.length) := by
    rw [hW, ← List.append_assoc, List.take_left' (by rw [List.length_append, hzl]; omega), List.drop_left' rfl, Nat.sub_right_comm]
  have e1 := w1 1 (.inr ⟨rfl, hz⟩)
  have e2 := w1 3 (.inl rfl)
  rw [if_pos rfl, oldF, hdrop] at e1
  rw [if_neg (by decide)] at e2
  have r1 : RdOK p N i ((gd p i).o ++ dgN ((gd p i).k - (gd p i).o.length) r) := by
    refine rd_of h (b := false) hi (hd.1.app hdr) (List.prefix_append _ _) ?_ ?_ ?_ ?_ ?_ ?_ ?_
    · show _ = (gd p i).k
      rw [List.length_append, hrlen]; omega
    · show (gd p i).o.length < (gd p i).k ∧ (gd p i).k ≤ 8
      omega
    · show 1 ≤ (gd p i).o.length ∧ (gd p i).o.length ≤ 5
      omega
    · show (stF (gd p i)).length ≤ 8
      unfold stF; rw [List.length_append, hzl]; omega
    · show stF (gd p i) ≠ []
      unfold stF; intro e
      have := congrArg List.length e
      rw [List.length_append] at this
      simp only [List.length_nil] at this
      omega
    · exact hd.2.app hzd
    · show val (stF (gd p i) ++ ((gd p i).o ++ _).drop (gd p i).o.length) = N
      rw [List.drop_left' rfl, stF, List.append_assoc, ← hW, hval]
  have r2 : RdOK p N i (dgN 8 N) := by
    refine rd_of h (b := true) hi hWd (by rw [hW]; exact List.prefix_append _ _) hW8 ?_ ?_ ?_ ?_ hd.2 ?_
    · show (gd p i).n.length < 8 ∧ 8 ≤ 8
      omega
    · show 1 ≤ (gd p i).n.length ∧ (gd p i).n.length ≤ 5
      omega
    · show (gd p i).n.length ≤ 8
      omega
    · show (gd p i).n ≠ []
      intro e; rw [e] at l2; simp at l2
    · show val ((gd p i).n ++ (dgN 8 N).drop (gd p i).n.length) = N
      conv => lhs; rw [hW]
      rw [List.drop_left' rfl, ← hW, hval]
  refine ⟨_, _, fun e => ?_, e1, e2, r1, r2, ?_⟩
  · have := congrArg List.length e
    rw [List.length_append, hrlen, hW8] at this; omega
  · exact same_ev' p _ _ N i (by rw [dS_size]; exact r1.2.2.2.1) (by rw [dS_size]; exact r2.2.2.2.1)
end Go.Proofs.YtndhglacgiidbaaGreatDoor

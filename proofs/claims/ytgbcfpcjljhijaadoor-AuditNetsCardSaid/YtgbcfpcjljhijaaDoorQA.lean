/- Chapter 40, AuditNets: the balances of the debts of all charges are the Sums of the seal, and the payments that settle them change the carriers' money by just these. Conditions: the package variable digest.round reads as the program's text lays it (tied). -/
import Derived.Test.YtgbcfpcjljhijaaDoorKI
set_option linter.unusedVariables false
set_option linter.unusedSimpArgs false
namespace Go.Proofs.YtgbcfpcjljhijaaDoor
open Go.Vai Go
open Nat (reduceEqDiff reduceMul reduceAdd reduceDiv reduceLeDiff)
open Int (reduceToNat reduceNe reduceEq reduceLT reduceLE)
def inFN (n lo hi : Int) : Bool := decide (lo ≤ n) && decide (n ≤ hi)
theorem inF_iff (n lo hi : Int) : inFN n lo hi = true ↔ lo ≤ n ∧ n ≤ hi := by simp [inFN]
theorem inF_not (n lo hi : Int) : inFN n lo hi = false ↔ ¬ (lo ≤ n ∧ n ≤ hi) := by rw [← inF_iff]; simp
abbrev DebN := Int × Int × Int
abbrev DPN (x : DebN) : AV := .agg [I x.1, I x.2.1, I x.2.2]
abbrev DL (l : List DebN) : AV := .sl 3 (l.map DPN)
theorem flatL_debs (l : List DebN) : AV.flatL (l.map DPN) = true := flatL_map l DPN fun _ => rfl
theorem namesL_debs (p : Nat → Bool) (l : List DebN) : AV.namesL p (l.map DPN) = false := namesL_map p l DPN fun _ => rfl
theorem allOK_debs (l : List DebN) : allOK 3 (l.map DPN) = true := allOK_map 3 l DPN fun _ => ⟨rfl, rfl⟩
@[go_sem] theorem append_deb (l : List DebN) (a b c : Int) : l.map DPN ++ [.agg [.v (.int .i64 a), .v (.int .i64 b), .v (.int .i64 c)]] = (l ++ [(a, b, c)]).map DPN := by simp
attribute [go_sem] flatL_debs namesL_debs allOK_debs
def badF (limit : Int) (d : DebN) : Prop := ¬ (0 ≤ d.1 ∧ d.1 ≤ 7) ∨ ¬ (0 ≤ d.2.1 ∧ d.2.1 ≤ 7) ∨ d.1 = d.2.1 ∨ ¬ (1 ≤ d.2.2 ∧ d.2.2 ≤ limit)
instance (limit : Int) (d : DebN) : Decidable (badF limit d) := by unfold badF; exact inferInstance
def debtsF (l : List DebN) (limit : Int) : Bool := decide (l.length ≤ 60) && l.all fun d => !decide (badF limit d)
def findF (limit : Int) (l : List DebN) (v : Nat) : Nat → Int
  | 0 => -1
  | n + 1 => if badF limit (gd l v) then v else findF limit l (v + 1) n
theorem findF_none (limit : Int) (l : List DebN) : ∀ n v, v + n = l.length → (findF limit l v n < 0 ↔ ∀ i, v ≤ i → i < l.length → ¬ badF limit (gd l i))
  | 0, v, hv => by simp [findF]; intro i h1 h2; omega
  | n + 1, v, hv => by
    unfold findF
    split
    · rename_i h
      constructor
      · intro h; omega
      · intro hh; exact absurd h (hh v (by omega) (by omega))
    · rename_i h
      rw [findF_none limit l n (v + 1) (by omega)]
      constructor
      · intro hh i h1 h2
        by_cases e : i = v
        · subst e; exact h
        · exact hh i (by omega) h2
      · intro hh i h1 h2; exact hh i (by omega) h2
theorem all_iff {T : Type} [Inhabited T] (l : List T) (p : T → Bool) : l.all p = true ↔ ∀ i, i < l.length → p (gd l i) = true := by
  rw [List.all_eq_true]
  constructor
  · intro h i hi; exact h _ (gd_mem l i hi)
  · intro h x hx
    obtain ⟨i, hi⟩ := List.getElem?_of_mem hx
    have hlt := (List.getElem?_eq_some_iff.1 hi).1
    have := h i hlt
    rw [gd_some l i hlt] at hi; cases hi; exact this
theorem debtsF_iff (l : List DebN) (limit : Int) : debtsF l limit = true ↔ l.length ≤ 60 ∧ ∀ i, i < l.length → ¬ badF limit (gd l i) := by
  unfold debtsF
  rw [Bool.and_eq_true, all_iff]
  simp
theorem debts_find (l : List DebN) (limit : Int) (h : l.length ≤ 60) : (!decide (0 ≤ findF limit l 0 l.length)) = debtsF l limit := by
  have h1 := findF_none limit l l.length 0 (by omega)
  have h2 := debtsF_iff l limit
  cases hb : debtsF l limit with
  | true =>
    have := h1.2 fun i _ hi => (h2.1 hb).2 i hi
    simp; omega
  | false =>
    have : ¬ findF limit l 0 l.length < 0 := fun hh => by
      rw [h2.2 ⟨h, fun i hi => h1.1 hh i (by omega) hi⟩] at hb; cases hb
    simp; omega
def addFN (b : List Int) (c : Int) (a : Int) : List Int := b.set c.toNat (gd b c.toNat + a)
def balN (l : List DebN) : Nat → List Int
  | 0 => [0, 0, 0, 0, 0, 0, 0, 0]
  | i + 1 => addFN (addFN (balN l i) (gd l i).1 (-(gd l i).2.2)) (gd l i).2.1 (gd l i).2.2
def balF (l : List DebN) : List Int := balN l l.length
theorem addF_lengthN (b : List Int) (c a : Int) : (addFN b c a).length = b.length := by simp [addFN]
theorem balN_length (l : List DebN) : ∀ i, (balN l i).length = 8
  | 0 => rfl
  | i + 1 => by simp [balN, addF_lengthN, balN_length l i]
theorem gd_addF (b : List Int) (c a : Int) (hc : c.toNat < b.length) (i : Nat) : gd (addFN b c a) i = gd b i + if i = c.toNat then a else 0 := by
  unfold addFN
  rw [gd_set _ _ _ _ hc]
  split
  · rename_i e; subst e; rfl
  · omega
def getsF (c : Nat) (d : DebN) : Int := (if (c : Int) = d.2.1 then d.2.2 else 0) - (if (c : Int) = d.1 then d.2.2 else 0)
theorem balN_gd (l : List DebN) {limit : Int} (h : ∀ i, i < l.length → ¬ badF limit (gd l i)) : ∀ i, i ≤ l.length → ∀ c, c < 8 → gd (balN l i) c = ((l.take i).map (getsF c)).sum
  | 0, _, c, hc => by
    have : c = 0 ∨ c = 1 ∨ c = 2 ∨ c = 3 ∨ c = 4 ∨ c = 5 ∨ c = 6 ∨ c = 7 := by omega
    rcases this with rfl | rfl | rfl | rfl | rfl | rfl | rfl | rfl <;> rfl
  | i + 1, hi, c, hc => by
    have ih := balN_gd l h i (by omega) c hc
    have hb := h i (by omega)
    unfold badF at hb
    have hl := balN_length l i
    rw [balN, gd_addF _ _ _ (by rw [addF_lengthN]; omega), gd_addF _ _ _ (by omega), ih]
    rw [List.take_add_one, gd_some l i (by omega)]
    simp only [List.map_append, List.sum_append, Option.toList_some, List.map_cons, List.map_nil, List.sum_cons, List.sum_nil, getsF]
    have e1 : c = (gd l i).1.toNat ↔ (c : Int) = (gd l i).1 := by omega
    have e2 : c = (gd l i).2.1.toNat ↔ (c : Int) = (gd l i).2.1 := by omega
    simp only [e1, e2]
    split <;> split <;> omega
theorem balN_le (l : List DebN) {limit : Int} (h : ∀ i, i < l.length → ¬ badF limit (gd l i)) (h0 : 0 ≤ limit) : ∀ i, i ≤ l.length → ∀ c, c < 8 → -(limit * i) ≤ gd (balN l i) c ∧ gd (balN l i) c ≤ limit * i
  | 0, _, c, hc => by
    have : c = 0 ∨ c = 1 ∨ c = 2 ∨ c = 3 ∨ c = 4 ∨ c = 5 ∨ c = 6 ∨ c = 7 := by omega
    rcases this with rfl | rfl | rfl | rfl | rfl | rfl | rfl | rfl <;> simp [balN, gd]
  | i + 1, hi, c, hc => by
    have ih := balN_le l h h0 i (by omega) c hc
    have hb := h i (by omega)
    unfold badF at hb
    have hl := balN_length l i
    rw [balN, gd_addF _ _ _ (by rw [addF_lengthN]; omega), gd_addF _ _ _ (by omega)]
    have e : limit * ((i + 1 : Nat) : Int) = limit * i + limit := by rw [Int.natCast_add, Int.mul_add]; simp
    rw [e]
    generalize limit * (i : Int) = q at *
    split <;> split <;> omega
theorem balN_small (l : List DebN) {limit : Int} (h : ∀ i, i < l.length → ¬ badF limit (gd l i)) (h0 : 0 ≤ limit) (h1 : limit ≤ 1000000000000) (hl : l.length ≤ 60) (i : Nat) (hi : i ≤ l.length) (c : Nat) (hc : c < 8) :
    -60000000000000 ≤ gd (balN l i) c ∧ gd (balN l i) c ≤ 60000000000000 := by
  have a := balN_le l h h0 i hi c hc
  have b : limit * (i : Int) ≤ 1000000000000 * 60 := Int.mul_le_mul h1 (by omega) (by omega) (by omega)
  omega
theorem balN_step (l : List DebN) {limit : Int} (h : ∀ i, i < l.length → ¬ badF limit (gd l i)) (h0 : 0 ≤ limit) (h1 : limit ≤ 1000000000000) (hl : l.length ≤ 60) (i : Nat) (hi : i < l.length) :
    IntKind.i64.wrap (gd (balN l i) (gd l i).1.toNat - (gd l i).2.2) = gd (balN l i) (gd l i).1.toNat - (gd l i).2.2 ∧
    (balN l i).set (gd l i).1.toNat (gd (balN l i) (gd l i).1.toNat - (gd l i).2.2) = addFN (balN l i) (gd l i).1 (-(gd l i).2.2) ∧
    IntKind.i64.wrap (gd (addFN (balN l i) (gd l i).1 (-(gd l i).2.2)) (gd l i).2.1.toNat + (gd l i).2.2) = gd (addFN (balN l i) (gd l i).1 (-(gd l i).2.2)) (gd l i).2.1.toNat + (gd l i).2.2 ∧
    (addFN (balN l i) (gd l i).1 (-(gd l i).2.2)).set (gd l i).2.1.toNat (gd (addFN (balN l i) (gd l i).1 (-(gd l i).2.2)) (gd l i).2.1.toNat + (gd l i).2.2) = balN l (i + 1) ∧
    IntKind.i64.wrap (gd (balN l i) (gd l i).2.1.toNat + (gd l i).2.2) = gd (balN l i) (gd l i).2.1.toNat + (gd l i).2.2 ∧
    (balN l i).set (gd l i).2.1.toNat (gd (balN l i) (gd l i).2.1.toNat + (gd l i).2.2) = addFN (balN l i) (gd l i).2.1 (gd l i).2.2 ∧
    IntKind.i64.wrap (gd (addFN (balN l i) (gd l i).2.1 (gd l i).2.2) (gd l i).1.toNat - (gd l i).2.2) = gd (addFN (balN l i) (gd l i).2.1 (gd l i).2.2) (gd l i).1.toNat - (gd l i).2.2 ∧
    (addFN (balN l i) (gd l i).2.1 (gd l i).2.2).set (gd l i).1.toNat (gd (addFN (balN l i) (gd l i).2.1 (gd l i).2.2) (gd l i).1.toNat - (gd l i).2.2) = balN l (i + 1) := by
  have hs := balN_small l h h0 h1 hl i (by omega)
  have hb := h i hi
  unfold badF at hb
  have hlen := balN_length l i
  have ha := hs (gd l i).1.toNat (by omega)
  have hc := hs (gd l i).2.1.toNat (by omega)
  refine ⟨wrap64_of (by omega), by rw [addFN, Int.sub_eq_add_neg], wrap64_of ?_, rfl, wrap64_of (by omega), rfl, wrap64_of ?_, ?_⟩
  · rw [gd_addF _ _ _ (by omega)]; split <;> omega
  · rw [gd_addF _ _ _ (by omega)]; split <;> omega
  · refine gd_ext (by simp [addF_lengthN, balN_length]) fun c _ => ?_
    rw [balN, show ∀ b : List Int, b.set (gd l i).1.toNat (gd b (gd l i).1.toNat - (gd l i).2.2) = addFN b (gd l i).1 (-(gd l i).2.2) from fun b => by rw [addFN, Int.sub_eq_add_neg]]
    rw [gd_addF _ _ _ (by rw [addF_lengthN]; omega), gd_addF _ _ _ (by omega), gd_addF _ _ _ (by rw [addF_lengthN]; omega), gd_addF _ _ _ (by omega)]
    omega
abbrev Er (n : Int) : AV := .v (.int .i64 n)
def balR (l : List DebN) : AV := if debtsF l 1000000000 = true then .tup [.new 3 1 ((balF l).map I), Er 0] else .tup [.new 3 1 [], Er 390]
def goodF (l : List Int) : Bool := (l.all fun n => inFN n (-1000000000000) 1000000000000) && (decide (l.length = 8) && decide (l.sum = 0))
theorem sum_take_succ (l : List Int) (i : Nat) (h : i < l.length) : (l.take (i + 1)).sum = (l.take i).sum + gd l i := by
  rw [List.take_add_one, gd_some l i h]; simp
theorem sum_le (l : List Int) (m : Int) (h0 : 0 ≤ m) : ∀ i, i ≤ l.length → (∀ j, j < i → inFN (gd l j) (-m) m = true) → -(m * i) ≤ (l.take i).sum ∧ (l.take i).sum ≤ m * i
  | 0, _, _ => by simp
  | i + 1, hi, h => by
    have ih := sum_le l m h0 i (by omega) fun j hj => h j (by omega)
    have hb := (inF_iff _ _ _).1 (h i (by omega))
    rw [sum_take_succ l i (by omega)]
    have e : m * ((i + 1 : Nat) : Int) = m * i + m := by rw [Int.natCast_add, Int.mul_add]; simp
    rw [e]
    generalize m * (i : Int) = q at *
    omega
def sumW (l : List Int) : Nat → Int
  | 0 => 0
  | i + 1 => IntKind.i64.wrap (sumW l i + gd l i)
theorem sumW_eq (l : List Int) (h8 : l.length ≤ 8) : ∀ i, i ≤ l.length → (∀ j, j < i → inFN (gd l j) (-1000000000000) 1000000000000 = true) → sumW l i = (l.take i).sum
  | 0, _, _ => by simp [sumW]
  | i + 1, hi, h => by
    have a := sum_le l 1000000000000 (by omega) (i + 1) hi h
    rw [sumW, sumW_eq l h8 i (by omega) fun j hj => h j (by omega), sum_take_succ l i (by omega)]
    rw [sum_take_succ l i (by omega)] at a
    exact wrap64_of (by omega)
theorem goodF_iff (l : List Int) : goodF l = true ↔ (∀ i, i < l.length → inFN (gd l i) (-1000000000000) 1000000000000 = true) ∧ l.length = 8 ∧ l.sum = 0 := by
  unfold goodF
  rw [Bool.and_eq_true, all_iff, Bool.and_eq_true, decide_eq_true_iff, decide_eq_true_iff]
theorem good_sum (l : List Int) (h : ∀ i, i < l.length → inFN (gd l i) (-1000000000000) 1000000000000 = true) (h8 : l.length = 8) : goodF l = (sumW l l.length == 0) := by
  rw [sumW_eq l (by omega) _ (Nat.le_refl _) h, List.take_length]
  have := goodF_iff l
  by_cases e : l.sum = 0
  · rw [this.2 ⟨h, h8, e⟩]; simp [e]
  · have : goodF l = false := by simp [goodF, e]
    rw [this]; simp [e]
theorem good_len (l : List Int) (h8 : l.length ≠ 8) : goodF l = false := by simp [goodF, h8]
theorem good_not (l : List Int) (i : Nat) (hi : i < l.length) (h : inFN (gd l i) (-1000000000000) 1000000000000 = false) : goodF l = false := by
  cases e : goodF l with
  | false => rfl
  | true => rw [((goodF_iff l).1 e).1 i hi] at h; cases h
def checkFN (l : List Int) (p : List DebN) : Bool := goodF l && (debtsF p 1000000000000 && decide (balF p = l))
end Go.Proofs.YtgbcfpcjljhijaaDoor
namespace Go.Proofs.YtgbcfpcjljhijaaDoor
open Go.Vai Go
open Nat (reduceEqDiff reduceMul reduceAdd reduceDiv reduceLeDiff)
open Int (reduceToNat reduceNe reduceEq reduceLT reduceLE)
theorem ofInt_nat (a : Nat) : BitVec.ofInt 64 (a : Int) = BitVec.ofNat 64 a := by simp
theorem toNat_of {a : Nat} (h : a < 2 ^ 64) : (BitVec.ofNat 64 a).toNat = a := by simp [Nat.mod_eq_of_lt h]
theorem and_nat {a b : Nat} (ha : a < 2 ^ 63) (hb : b < 2 ^ 63) : bitsI .and .i64 (a : Int) (b : Int) = ((a &&& b : Nat) : Int) := by
  have h : a &&& b < 2 ^ 63 := Nat.lt_of_le_of_lt Nat.and_le_left ha
  show IntKind.i64.wrap ((BitVec.ofInt 64 (a : Int) &&& BitVec.ofInt 64 (b : Int) : BitVec 64).toNat : Int) = _
  rw [ofInt_nat, ofInt_nat, BitVec.toNat_and, toNat_of (a := a) (by omega), toNat_of (a := b) (by omega)]
  exact wrap64_of ⟨by omega, by omega⟩
theorem or_nat {a b : Nat} (ha : a < 2 ^ 63) (hb : b < 2 ^ 63) : bitsI .or .i64 (a : Int) (b : Int) = ((a ||| b : Nat) : Int) := by
  have h : a ||| b < 2 ^ 63 := Nat.or_lt_two_pow ha hb
  show IntKind.i64.wrap ((BitVec.ofInt 64 (a : Int) ||| BitVec.ofInt 64 (b : Int) : BitVec 64).toNat : Int) = _
  rw [ofInt_nat, ofInt_nat, BitVec.toNat_or, toNat_of (a := a) (by omega), toNat_of (a := b) (by omega)]
  exact wrap64_of ⟨by omega, by omega⟩
def lessN (a b : Nat) : Nat := a ^^^ (a &&& b)
theorem lessN_bit (a b i : Nat) : (lessN a b).testBit i = (a.testBit i && !b.testBit i) := by
  simp only [lessN, Nat.testBit_xor, Nat.testBit_and]
  cases a.testBit i <;> cases b.testBit i <;> rfl
theorem lessN_le (a b : Nat) : lessN a b ≤ a := by
  have e : lessN a b ||| (a &&& b) = a := Nat.eq_of_testBit_eq fun i => by
    rw [Nat.testBit_or, lessN_bit, Nat.testBit_and]
    cases a.testBit i <;> cases b.testBit i <;> rfl
  exact Nat.le_trans Nat.left_le_or (Nat.le_of_eq e)
theorem andNot_nat {a b : Nat} (ha : a < 2 ^ 63) (hb : b < 2 ^ 63) : bitsI .andNot .i64 (a : Int) (b : Int) = ((lessN a b : Nat) : Int) := by
  have e : (BitVec.ofNat 64 a &&& ~~~(BitVec.ofNat 64 b)).toNat = lessN a b := by
    refine Nat.eq_of_testBit_eq fun i => ?_
    rw [lessN_bit]
    simp only [BitVec.testBit_toNat, BitVec.getLsbD_and, BitVec.getLsbD_not, BitVec.getLsbD_ofNat]
    by_cases hi : i < 64
    · simp [hi]
    · have : a.testBit i = false := Nat.testBit_lt_two_pow (Nat.lt_of_lt_of_le ha (Nat.pow_le_pow_right (by omega) (by omega)))
      simp [hi, this]
  show IntKind.i64.wrap ((BitVec.ofInt 64 (a : Int) &&& ~~~(BitVec.ofInt 64 (b : Int)) : BitVec 64).toNat : Int) = _
  rw [ofInt_nat, ofInt_nat, e]
  have := lessN_le a b
  exact wrap64_of ⟨by omega, by omega⟩
theorem shl_nat {c : Nat} (hc : c ≤ 8) : IntKind.i64.wrap (1 * 2 ^ (min ((c : Int)).toNat IntKind.i64.bits)) = ((2 ^ c : Nat) : Int) := by
  have : c = 0 ∨ c = 1 ∨ c = 2 ∨ c = 3 ∨ c = 4 ∨ c = 5 ∨ c = 6 ∨ c = 7 ∨ c = 8 := by omega
  rcases this with rfl | rfl | rfl | rfl | rfl | rfl | rfl | rfl | rfl <;> rfl
theorem shr_nat {s c : Nat} (hc : c ≤ 8) : ((s : Int)).fdiv (2 ^ (min ((c : Int)).toNat IntKind.i64.bits)) = ((s / 2 ^ c : Nat) : Int) := by
  have e : min ((c : Int)).toNat IntKind.i64.bits = c := by simp [IntKind.bits]; omega
  rw [e, show ((2 : Int) ^ c) = ((2 ^ c : Nat) : Int) from by simp]
  rw [Int.fdiv_eq_ediv_of_nonneg _ (Int.natCast_nonneg _)]
  exact (Int.natCast_ediv ..).symm
theorem bit_one (s c : Nat) : ((s / 2 ^ c) &&& 1 = 1) ↔ s.testBit c = true := by
  rw [Nat.and_one_is_mod, Nat.testBit_eq_decide_div_mod_eq, decide_eq_true_iff]
theorem bit_zero (s c : Nat) : ((s / 2 ^ c) &&& 1 = 0) ↔ s.testBit c = false := by
  rw [Nat.and_one_is_mod, Nat.testBit_eq_decide_div_mod_eq, decide_eq_false_iff_not]; omega
theorem shr_min {s c : Nat} (hc : c ≤ 8) : ((s : Int)).fdiv (2 ^ min c 64) = ((s / 2 ^ c : Nat) : Int) := by
  have := shr_nat (s := s) hc
  rwa [Int.toNat_natCast] at this
theorem bit_and {s c : Nat} (hs : s < 2 ^ 63) (hc : c ≤ 8) : bitsI .and .i64 (((s : Int)).fdiv (2 ^ min c 64)) 1 = (((s / 2 ^ c) &&& 1 : Nat) : Int) := by
  rw [shr_min hc]
  exact and_nat (b := 1) (Nat.lt_of_le_of_lt (Nat.div_le_self _ _) hs) (by omega)
theorem bit_test {s c : Nat} (hs : s < 2 ^ 63) (hc : c ≤ 8) : (bitsI .and .i64 (((s : Int)).fdiv (2 ^ min c 64)) 1 = 1) ↔ s.testBit c = true := by
  rw [bit_and hs hc, ← bit_one]; omega
theorem bit_test0 {s c : Nat} (hs : s < 2 ^ 63) (hc : c ≤ 8) : (bitsI .and .i64 (((s : Int)).fdiv (2 ^ min c 64)) 1 = 0) ↔ s.testBit c = false := by
  rw [bit_and hs hc, ← bit_zero]; omega
theorem shl_min {c : Nat} (hc : c ≤ 8) : IntKind.i64.wrap (1 * 2 ^ min c 64) = ((2 ^ c : Nat) : Int) := by
  have := shl_nat (c := c) hc
  rwa [Int.toNat_natCast] at this
end Go.Proofs.YtgbcfpcjljhijaaDoor
namespace Go.Proofs.YtgbcfpcjljhijaaDoor
open Go.Vai Go
open Nat (reduceEqDiff reduceMul reduceAdd reduceDiv reduceLeDiff)
open Int (reduceToNat reduceNe reduceEq reduceLT reduceLE)
def sumK (b : List Int) (s : Nat) : Nat → Int
  | 0 => 0
  | i + 1 => sumK b s i + if s.testBit i = true then gd b i else 0
def sumM (b : List Int) (s : Nat) : Int := sumK b s 8
def lowN (s : Nat) (c : Nat) : Nat → Nat
  | 0 => c
  | n + 1 => if s.testBit c = true then c else lowN s (c + 1) n
def lowF (s : Nat) : Nat := lowN s 0 8
def subsN (rest : Nat) : Nat → Nat → List Nat
  | 0, _ => []
  | n + 1, s => s :: if s = 0 then [] else subsN rest n ((s - 1) &&& rest)
def setsF (all c : Nat) : List Nat := (subsN (lessN all (2 ^ c)) 256 (lessN all (2 ^ c))).map (· ||| 2 ^ c)
def bestF (b : List Int) (g : Nat → List Nat) (all : Nat) (best : List Nat) (s : Nat) : List Nat :=
  if sumM b s = 0 then (if best.length < (g (lessN all s)).length + 1 then s :: g (lessN all s) else best) else best
def gF (b : List Int) : Nat → Nat → List Nat
  | 0, _ => []
  | n + 1, all => if all = 0 then [] else (setsF all (lowF all)).foldl (bestF b (gF b n) all) []
abbrev gI (l : List Nat) : List Int := l.map fun s : Nat => (s : Int)
def kvF (b : List Int) : Nat → List (Int × AV) → Nat → List (Int × AV)
  | 0, kv, _ => kv
  | n + 1, kv, all => if all = 0 then kv else if (mgetA (all : Int) kv).isSome = true then kv else
      mputA ((setsF all (lowF all)).foldl (fun kv s => if sumM b s = 0 then kvF b n kv (lessN all s) else kv) kv) all (SL (gI (gF b 256 all)))
def KvOK (b : List Int) (kv : List (Int × AV)) : Prop := ∀ p ∈ kv, ∃ s : Nat, s < 256 ∧ p = ((s : Int), SL (gI (gF b 256 s)))
theorem lowN_spec (s : Nat) : ∀ (n c : Nat), s < 2 ^ (c + n) → (∀ i, i < c → s.testBit i = false) → s ≠ 0 → s.testBit (lowN s c n) = true ∧ lowN s c n < c + n ∧ ∀ i, i < lowN s c n → s.testBit i = false
  | 0, c, h, hb, h0 => by
    exfalso
    apply h0
    refine Nat.eq_of_testBit_eq fun i => ?_
    rw [Nat.zero_testBit]
    by_cases hi : i < c
    · exact hb i hi
    · exact Nat.testBit_lt_two_pow (Nat.lt_of_lt_of_le h (Nat.pow_le_pow_right (by omega) (by omega)))
  | n + 1, c, h, hb, h0 => by
    rw [lowN]
    split
    · rename_i hc; exact ⟨hc, by omega, hb⟩
    · rename_i hc
      obtain ⟨h1, h2, h3⟩ := lowN_spec s n (c + 1) (by rw [show c + 1 + n = c + (n + 1) from by omega]; exact h) (fun i hi => by
        by_cases e : i = c
        · subst e; simpa using hc
        · exact hb i (by omega)) h0
      exact ⟨h1, by omega, h3⟩
theorem lowF_spec {s : Nat} (h : s < 256) (h0 : s ≠ 0) : s.testBit (lowF s) = true ∧ lowF s < 8 ∧ ∀ i, i < lowF s → s.testBit i = false := by
  have := lowN_spec s 8 0 (by simpa using h) (fun i hi => by omega) h0
  simpa [lowF] using this
theorem subsN_mem (rest : Nat) : ∀ (n s t : Nat), t ∈ subsN rest n s → (s &&& rest = s) → t &&& rest = t
  | n + 1, s, t, h, hs => by
    rw [subsN] at h
    rcases List.mem_cons.1 h with rfl | h
    · exact hs
    · split at h
      · cases h
      · exact subsN_mem rest n _ t h (by rw [Nat.and_assoc, Nat.and_self])
theorem next_sub : ∀ (n rest s t : Nat), s < 2 ^ n → s &&& rest = s → t &&& rest = t → t < s → t ≤ (s - 1) &&& rest
  | 0, rest, s, t, hn, hs, ht, h => by simp at hn; omega
  | n + 1, rest, s, t, hn, hs, ht, h => by
    have d2 : ∀ a b : Nat, (a &&& b) / 2 = a / 2 &&& b / 2 := fun a b => Nat.and_div_two ..
    have m2 : ∀ a b : Nat, (a &&& b) % 2 = if a % 2 = 1 ∧ b % 2 = 1 then 1 else 0 := fun a b => by
      have h : (a &&& b) % 2 ^ 1 = (a % 2 ^ 1) &&& (b % 2 ^ 1) := Nat.and_mod_two_pow ..
      rw [Nat.pow_one] at h
      rw [h]
      rcases Nat.mod_two_eq_zero_or_one a with ha | ha <;> rcases Nat.mod_two_eq_zero_or_one b with hb | hb <;> rw [ha, hb] <;> rfl
    have hs2 : s / 2 &&& rest / 2 = s / 2 := by rw [← d2, hs]
    have ht2 : t / 2 &&& rest / 2 = t / 2 := by rw [← d2, ht]
    have e := d2 (s - 1) rest
    have em := m2 (s - 1) rest
    have hsm := m2 s rest
    have htm := m2 t rest
    rw [hs] at hsm
    rw [ht] at htm
    by_cases hodd : s % 2 = 1
    · have e1 : (s - 1) / 2 = s / 2 := by omega
      rw [e1, hs2] at e
      omega
    · have e1 : (s - 1) / 2 = s / 2 - 1 := by omega
      have e2 : (s - 1) % 2 = 1 := by omega
      have ih := next_sub n (rest / 2) (s / 2) (t / 2) (by rw [Nat.pow_succ] at hn; omega) hs2 ht2 (by omega)
      rw [e1] at e
      rw [e2] at em
      by_cases hr : rest % 2 = 1
      · rw [if_pos ⟨rfl, hr⟩] at em; omega
      · have : t % 2 = 0 := by rw [htm, if_neg (fun x => hr x.2)]
        omega
theorem subsN_all (rest : Nat) : ∀ (n s t : Nat), s < n → s < 256 → s &&& rest = s → t &&& rest = t → t ≤ s → t ∈ subsN rest n s
  | n + 1, s, t, hn, h8, hs, ht, h => by
    rw [subsN]
    by_cases e : t = s
    · subst e; simp
    · rw [if_neg (by omega)]
      have := next_sub 8 rest s t h8 hs ht (by omega)
      have := @Nat.and_le_left (s - 1) rest
      exact List.mem_cons_of_mem _ (subsN_all rest n _ t (by omega) (by omega) (by rw [Nat.and_assoc, Nat.and_self]) ht (by assumption))
def Sub (a b : Nat) : Prop := ∀ i, a.testBit i = true → b.testBit i = true
theorem sub_iff {a b : Nat} : a &&& b = a ↔ Sub a b := by
  constructor
  · intro h i hi
    rw [← h, Nat.testBit_and, Bool.and_eq_true] at hi; exact hi.2
  · intro h
    refine Nat.eq_of_testBit_eq fun i => ?_
    rw [Nat.testBit_and]
    cases hi : a.testBit i with
    | false => rfl
    | true => rw [h i hi]; rfl
theorem Sub.le {a b : Nat} (h : Sub a b) : a ≤ b := by rw [← sub_iff.2 h]; exact Nat.and_le_right
theorem setsF_mem {all c : Nat} (hc : all.testBit c = true) (h8 : all < 256) (s : Nat) : s ∈ setsF all c ↔ Sub s all ∧ s.testBit c = true := by
  have hl : lessN all (2 ^ c) < 256 := Nat.lt_of_le_of_lt (lessN_le _ _) h8
  have tb : ∀ i, (2 ^ c).testBit i = decide (c = i) := fun i => Nat.testBit_two_pow
  unfold setsF
  rw [List.mem_map]
  constructor
  · rintro ⟨t, ht, rfl⟩
    have h1 := sub_iff.1 (subsN_mem _ _ _ t ht (Nat.and_self _))
    refine ⟨fun i hi => ?_, by rw [Nat.testBit_or, tb]; simp⟩
    rw [Nat.testBit_or, Bool.or_eq_true] at hi
    rcases hi with hi | hi
    · have := h1 i hi; rw [lessN_bit, Bool.and_eq_true] at this; exact this.1
    · rw [tb, decide_eq_true_iff] at hi; subst hi; exact hc
  · rintro ⟨h1, h2⟩
    have hsub : Sub (lessN s (2 ^ c)) (lessN all (2 ^ c)) := fun i hi => by
      rw [lessN_bit, Bool.and_eq_true] at hi ⊢; exact ⟨h1 i hi.1, hi.2⟩
    refine ⟨lessN s (2 ^ c), subsN_all _ 256 _ _ hl hl (Nat.and_self _) (sub_iff.2 hsub) hsub.le, ?_⟩
    refine Nat.eq_of_testBit_eq fun i => ?_
    rw [Nat.testBit_or, lessN_bit, tb]
    by_cases e : c = i
    · subst e; rw [h2]; simp
    · simp [e]
theorem lessN_lt {all s c : Nat} (h1 : all.testBit c = true) (h2 : s.testBit c = true) : lessN all s < all := by
  refine Nat.lt_of_le_of_ne (lessN_le _ _) fun e => ?_
  have := lessN_bit all s c
  rw [e, h1, h2] at this; cases this
theorem foldl_congr {α β : Type} {f g : α → β → α} : ∀ (l : List β) (a : α), (∀ a, ∀ x ∈ l, f a x = g a x) → l.foldl f a = l.foldl g a
  | [], _, _ => rfl
  | x :: l, a, h => by
    rw [List.foldl_cons, List.foldl_cons, h a x (by simp)]
    exact foldl_congr l _ fun a y hy => h a y (List.mem_cons_of_mem _ hy)
theorem gF_fuel (b : List Int) : ∀ (n m all : Nat), all < 256 → all < n → all < m → gF b n all = gF b m all
  | n + 1, m + 1, all, h8, hn, hm => by
    rw [gF, gF]
    split
    · rfl
    · rename_i h0
      obtain ⟨hl, _, _⟩ := lowF_spec h8 h0
      refine foldl_congr _ _ fun best s hs => ?_
      have hs := (setsF_mem hl h8 s).1 hs
      have hlt := lessN_lt hl hs.2
      unfold bestF
      rw [gF_fuel b n m (lessN all s) (by omega) (by omega) (by omega)]
theorem kv_put {b : List Int} {kv : List (Int × AV)} (h : KvOK b kv) {all : Nat} (h8 : all < 256) : KvOK b (mputA kv all (SL (gI (gF b 256 all)))) := fun p hp => by
  rcases mputA_mem hp with rfl | hp
  · exact ⟨all, h8, rfl⟩
  · exact h p hp
theorem kvF_ok {b : List Int} : ∀ (n : Nat) (kv : List (Int × AV)) (all : Nat), all < 256 → KvOK b kv → KvOK b (kvF b n kv all)
  | 0, kv, _, _, h => h
  | n + 1, kv, all, h8, h => by
    rw [kvF]
    split
    · exact h
    · split
      · exact h
      · have : ∀ (l : List Nat) (kv : List (Int × AV)), KvOK b kv → KvOK b (l.foldl (fun kv s => if sumM b s = 0 then kvF b n kv (lessN all s) else kv) kv) := fun l => by
          induction l with
          | nil => intro kv h; exact h
          | cons s l ih =>
            intro kv h
            rw [List.foldl_cons]
            refine ih _ ?_
            split
            · exact kvF_ok n kv _ (Nat.lt_of_le_of_lt (lessN_le _ _) h8) h
            · exact h
        exact kv_put (this _ kv h) h8
theorem kv_get {b : List Int} {kv : List (Int × AV)} (h : KvOK b kv) {all : Nat} {v : AV} (hv : mgetA (all : Int) kv = some v) : v = SL (gI (gF b 256 all)) := by
  obtain ⟨s, _, e⟩ := h _ (mgetA_mem hv)
  simp only [Prod.mk.injEq] at e
  have : s = all := by omega
  subst this; exact e.2
theorem namesL_kv {b : List Int} {kv : List (Int × AV)} (h : KvOK b kv) (p : Nat → Bool) : AV.namesL p (kv.map entA) = false := by
  cases hh : AV.namesL p (kv.map entA) with
  | false => rfl
  | true =>
    obtain ⟨c, hc, hn⟩ := (AV.namesL_iff p _).1 hh
    obtain ⟨q, hq, rfl⟩ := List.mem_map.1 hc
    obtain ⟨s, _, rfl⟩ := h q hq
    simp [AV.namesB, AV.namesL] at hn
theorem gF_length (b : List Int) : ∀ (n all : Nat), (gF b n all).length ≤ n
  | 0, _ => Nat.le_refl _
  | n + 1, all => by
    rw [gF]
    split
    · simp
    · have : ∀ (l : List Nat) (best : List Nat), best.length ≤ n + 1 → (l.foldl (bestF b (gF b n) all) best).length ≤ n + 1 := fun l => by
        induction l with
        | nil => intro best h; exact h
        | cons s l ih =>
          intro best h
          rw [List.foldl_cons]
          refine ih _ ?_
          have := gF_length b n (lessN all s)
          unfold bestF
          split
          · split
            · rw [List.length_cons]; omega
            · exact h
          · exact h
      exact this _ [] (by simp)
end Go.Proofs.YtgbcfpcjljhijaaDoor
namespace Go.Proofs.YtgbcfpcjljhijaaDoor
open Go.Vai Go
open Nat (reduceEqDiff reduceMul reduceAdd reduceDiv reduceLeDiff)
open Int (reduceToNat reduceNe reduceEq reduceLT reduceLE)
def selB (l : List Int) (s : Nat) (sg : Int) (c : Nat) : Bool := s.testBit c && decide (0 < sg * gd l c)
def selF (l : List Int) (s : Nat) (sg : Int) (v : Nat) : Nat → Int
  | 0 => -1
  | n + 1 => if selB l s sg v = true then v else selF l s sg (v + 1) n
theorem selF_spec (l : List Int) (s : Nat) (sg : Int) : ∀ (n v : Nat), (selF l s sg v n = -1 ∧ ∀ i, v ≤ i → i < v + n → selB l s sg i = false) ∨ ∃ i : Nat, selF l s sg v n = i ∧ v ≤ i ∧ i < v + n ∧ selB l s sg i = true
  | 0, v => .inl ⟨rfl, fun i h1 h2 => by omega⟩
  | n + 1, v => by
    rw [selF]
    split
    · rename_i h; exact .inr ⟨v, rfl, by omega, by omega, h⟩
    · rename_i h
      rcases selF_spec l s sg n (v + 1) with ⟨h1, h2⟩ | ⟨i, h1, h2, h3, h4⟩
      · refine .inl ⟨h1, fun i hi hi2 => ?_⟩
        by_cases e : i = v
        · subst e; simpa using h
        · exact h2 i (by omega) (by omega)
      · exact .inr ⟨i, h1, by omega, by omega, h4⟩
theorem selB_neg (l : List Int) (s : Nat) (c : Nat) : selB l s (-1) c = true ↔ s.testBit c = true ∧ gd l c < 0 := by
  unfold selB; rw [Bool.and_eq_true, decide_eq_true_iff]; constructor <;> rintro ⟨h1, h2⟩ <;> exact ⟨h1, by omega⟩
theorem selB_pos (l : List Int) (s : Nat) (c : Nat) : selB l s 1 c = true ↔ s.testBit c = true ∧ 0 < gd l c := by
  unfold selB; rw [Bool.and_eq_true, decide_eq_true_iff]; constructor <;> rintro ⟨h1, h2⟩ <;> exact ⟨h1, by omega⟩
theorem sumK_nn (l : List Int) (s : Nat) : ∀ n, (∀ i, i < n → s.testBit i = true → 0 ≤ gd l i) → 0 ≤ sumK l s n ∧ (sumK l s n = 0 → ∀ i, i < n → s.testBit i = true → gd l i = 0)
  | 0, _ => ⟨Int.le_refl _, fun _ i hi => by omega⟩
  | n + 1, h => by
    obtain ⟨h1, h2⟩ := sumK_nn l s n fun i hi => h i (by omega)
    have hn := h n (by omega)
    rw [sumK]
    refine ⟨by split <;> rename_i hb <;> first | (have := hn hb; omega) | omega, fun hz i hi hb => ?_⟩
    by_cases e : i = n
    · subst e; rw [if_pos hb] at hz; have := hn hb; omega
    · refine h2 ?_ i (by omega) hb
      split at hz
      · rename_i hb'; have := hn hb'; omega
      · omega
theorem sumK_np (l : List Int) (s : Nat) : ∀ n, (∀ i, i < n → s.testBit i = true → gd l i ≤ 0) → sumK l s n ≤ 0 ∧ (sumK l s n = 0 → ∀ i, i < n → s.testBit i = true → gd l i = 0)
  | 0, _ => ⟨Int.le_refl _, fun _ i hi => by omega⟩
  | n + 1, h => by
    obtain ⟨h1, h2⟩ := sumK_np l s n fun i hi => h i (by omega)
    have hn := h n (by omega)
    rw [sumK]
    refine ⟨by split <;> rename_i hb <;> first | (have := hn hb; omega) | omega, fun hz i hi hb => ?_⟩
    by_cases e : i = n
    · subst e; rw [if_pos hb] at hz; have := hn hb; omega
    · refine h2 ?_ i (by omega) hb
      split at hz
      · rename_i hb'; have := hn hb'; omega
      · omega
theorem sumK_add (l : List Int) (s c : Nat) (a : Int) (hc : c < l.length) : ∀ n, sumK (addFN l c a) s n = sumK l s n + if c < n ∧ s.testBit c = true then a else 0
  | 0 => by simp [sumK]
  | n + 1 => by
    rw [sumK, sumK, sumK_add l s c a hc n, gd_addF _ _ _ (by simpa using hc), Int.toNat_natCast]
    by_cases e : n = c
    · subst e
      by_cases hb : s.testBit n = true
      · simp [hb]; omega
      · simp [hb]
    · by_cases hb : s.testBit c = true <;> by_cases hbn : s.testBit n = true <;> by_cases hn : c < n <;> simp [hb, hbn, hn, e, show (c < n + 1) ↔ c < n from by omega] <;> omega
def nzK (l : List Int) : Nat → Nat
  | 0 => 0
  | i + 1 => nzK l i + if gd l i = 0 then 0 else 1
def nzF (l : List Int) : Nat := nzK l 8
theorem nzK_le (l : List Int) : ∀ n, nzK l n ≤ n
  | 0 => Nat.le_refl _
  | n + 1 => by have := nzK_le l n; rw [nzK]; split <;> omega
theorem nzK_set (l : List Int) (c : Nat) (x : Int) (hc : c < l.length) : ∀ n, nzK (l.set c x) n + (if c < n ∧ gd l c ≠ 0 then 1 else 0) = nzK l n + (if c < n ∧ x ≠ 0 then 1 else 0)
  | 0 => by simp [nzK]
  | n + 1 => by
    have ih := nzK_set l c x hc n
    rw [nzK, nzK, gd_set _ _ _ _ hc]
    by_cases e : n = c
    · subst e
      have ih : nzK (l.set n x) n = nzK l n := by simpa using ih
      by_cases h2 : x = 0
      · subst h2; by_cases h1 : gd l n = 0 <;> simp [h1, ih]
      · by_cases h1 : gd l n = 0 <;> simp [h1, h2, ih]
    · rw [if_neg e]
      have : (c < n + 1) ↔ c < n := by omega
      simp only [this]
      omega
def frmF (l : List Int) (g : Nat) : Int := selF l g (-1) 0 8
def toF (l : List Int) (g : Nat) : Int := selF l g 1 0 8
def amtF (l : List Int) (g : Nat) : Int := min (-(gd l (frmF l g).toNat)) (gd l (toF l g).toNat)
def payL (l : List Int) (g : Nat) : List Int := addFN (addFN l (frmF l g) (amtF l g)) (toF l g) (-(amtF l g))
def payD (l : List Int) (g : Nat) : DebN := (frmF l g, toF l g, amtF l g)
def payN (g : Nat) : Nat → List Int × List DebN → List Int × List DebN
  | 0, st => st
  | n + 1, st => if frmF st.1 g < 0 then st else payN g n (payL st.1 g, st.2 ++ [payD st.1 g])
structure GrpOK (g : Nat) (l : List Int) : Prop where
  len : l.length = 8
  rng : ∀ i, i < 8 → -1000000000000 ≤ gd l i ∧ gd l i ≤ 1000000000000
  sum : sumM l g = 0
structure PayOK (g : Nat) (l : List Int) (f t : Nat) : Prop where
  f8 : f < 8
  t8 : t < 8
  fg : g.testBit f = true
  tg : g.testBit t = true
  fneg : gd l f < 0
  tpos : 0 < gd l t
  frm : frmF l g = f
  to : toF l g = t
theorem frm_neg {g : Nat} {l : List Int} (h : GrpOK g l) (hf : frmF l g < 0) : ∀ i, i < 8 → g.testBit i = true → gd l i = 0 := by
  rcases selF_spec l g (-1) 8 0 with ⟨_, h2⟩ | ⟨i, h1, _⟩
  · refine (sumK_nn l g 8 fun i hi hb => ?_).2 h.sum
    have := h2 i (by omega) (by omega)
    cases hs : decide (gd l i < 0) with
    | true => rw [(selB_neg l g i).2 ⟨hb, by simpa using hs⟩] at this; cases this
    | false => simp at hs; omega
  · unfold frmF at hf; omega
theorem frm_pos {g : Nat} {l : List Int} (h : GrpOK g l) (hf : ¬ frmF l g < 0) : ∃ f t, PayOK g l f t := by
  rcases selF_spec l g (-1) 8 0 with ⟨h1, _⟩ | ⟨f, h1, _, h3, h4⟩
  · unfold frmF at hf; omega
  · obtain ⟨h5, h6⟩ := (selB_neg l g f).1 h4
    rcases selF_spec l g 1 8 0 with ⟨_, k2⟩ | ⟨t, k1, _, k3, k4⟩
    · exfalso
      have := (sumK_np l g 8 fun i hi hb => by
        have := k2 i (by omega) (by omega)
        cases hs : decide (0 < gd l i) with
        | true => rw [(selB_pos l g i).2 ⟨hb, by simpa using hs⟩] at this; cases this
        | false => simp at hs; omega).2 h.sum f (by omega) h5
      omega
    · obtain ⟨k5, k6⟩ := (selB_pos l g t).1 k4
      exact ⟨f, t, by omega, by omega, h5, k5, h6, k6, h1, k1⟩
theorem pay_at {g : Nat} {l : List Int} (h : GrpOK g l) {f t : Nat} (hp : PayOK g l f t) : 1 ≤ amtF l g ∧ amtF l g ≤ 1000000000000 ∧ (amtF l g = -(gd l f) ∨ amtF l g = gd l t) ∧ amtF l g ≤ -(gd l f) ∧ amtF l g ≤ gd l t ∧ f ≠ t ∧ payL l g = addFN (addFN l f (amtF l g)) t (-(amtF l g)) ∧
    (payL l g).length = 8 ∧ ∀ i, gd (payL l g) i = gd l i + (if i = f then amtF l g else 0) + (if i = t then -(amtF l g) else 0) := by
  have h1 := hp.fneg
  have h2 := hp.tpos
  have h3 := h.rng f hp.f8
  have h4 := h.rng t hp.t8
  have e : amtF l g = min (-(gd l f)) (gd l t) := by unfold amtF; rw [hp.frm, hp.to, Int.toNat_natCast, Int.toNat_natCast]
  have hl := h.len
  have ep : payL l g = addFN (addFN l f (amtF l g)) t (-(amtF l g)) := by unfold payL; rw [hp.frm, hp.to]
  refine ⟨by omega, by omega, by omega, by omega, by omega, fun e => by subst e; omega, ep, by rw [ep, addF_lengthN, addF_lengthN, hl], fun i => ?_⟩
  rw [ep, gd_addF _ _ _ (by rw [addF_lengthN, hl, Int.toNat_natCast]; exact hp.t8), gd_addF _ _ _ (by rw [hl, Int.toNat_natCast]; exact hp.f8), Int.toNat_natCast, Int.toNat_natCast]
theorem pay_sum {g : Nat} {l : List Int} (h : GrpOK g l) {f t : Nat} (hp : PayOK g l f t) (s : Nat) (hs : s.testBit f = s.testBit t) : sumM (payL l g) s = sumM l s := by
  obtain ⟨_, _, _, _, _, _, ep, _⟩ := pay_at h hp
  have hl := h.len
  have h1 := hp.f8
  have h2 := hp.t8
  rw [ep, sumM, sumK_add _ _ _ _ (by rw [addF_lengthN]; omega), sumK_add _ _ _ _ (by omega), hs]
  unfold sumM
  by_cases hb : s.testBit t = true
  · rw [if_pos ⟨h1, hb⟩, if_pos ⟨h2, hb⟩]; omega
  · rw [if_neg (fun x => hb x.2), if_neg (fun x => hb x.2)]; omega
theorem pay_ok {g : Nat} {l : List Int} (h : GrpOK g l) {f t : Nat} (hp : PayOK g l f t) : GrpOK g (payL l g) := by
  obtain ⟨a1, a2, a3, a4, a5, a6, _, a8, a9⟩ := pay_at h hp
  refine ⟨a8, fun i hi => ?_, by rw [pay_sum h hp g (by rw [hp.fg, hp.tg]), h.sum]⟩
  rw [a9 i]
  have h1 := hp.fneg
  have h2 := hp.tpos
  have := h.rng i hi
  by_cases e1 : i = f
  · subst e1; rw [if_pos rfl, if_neg a6]; omega
  · by_cases e2 : i = t
    · subst e2; rw [if_neg e1, if_pos rfl]; omega
    · rw [if_neg e1, if_neg e2]; omega
def hasF (g : Nat) (l : List Int) : Prop := ∃ i, i < 8 ∧ g.testBit i = true ∧ gd l i ≠ 0
theorem pay_nz {g : Nat} {l : List Int} (h : GrpOK g l) {f t : Nat} (hp : PayOK g l f t) : nzF (payL l g) < nzF l ∧ (¬ hasF g (payL l g) → nzF (payL l g) + 2 = nzF l) := by
  obtain ⟨a1, a2, a3, a4, a5, a6, ep, a8, a9⟩ := pay_at h hp
  have h1 := hp.fneg
  have h2 := hp.tpos
  have hl := h.len
  have f8 := hp.f8
  have t8 := hp.t8
  have b1 := nzK_set l f (gd l f + amtF l g) (by omega) 8
  have b2 := nzK_set (l.set f (gd l f + amtF l g)) t (gd l t - amtF l g) (by rw [List.length_set]; omega) 8
  have e2 : gd (l.set f (gd l f + amtF l g)) t = gd l t := by rw [gd_set _ _ _ _ (by omega), if_neg (fun e => a6 e.symm)]
  rw [e2] at b2
  have ep2 : payL l g = (l.set f (gd l f + amtF l g)).set t (gd l t - amtF l g) := by
    rw [ep]; unfold addFN; rw [Int.toNat_natCast, Int.toNat_natCast, e2, Int.sub_eq_add_neg]
  rw [if_pos ⟨f8, by omega⟩] at b1
  rw [if_pos ⟨t8, by omega⟩] at b2
  rw [← ep2] at b2
  unfold nzF
  refine ⟨?_, fun hn => ?_⟩
  · split at b1 <;> split at b2 <;> omega
  · have z1 : gd (payL l g) f = 0 := Classical.byContradiction fun hh => hn ⟨f, f8, hp.fg, hh⟩
    have z2 : gd (payL l g) t = 0 := Classical.byContradiction fun hh => hn ⟨t, t8, hp.tg, hh⟩
    rw [a9, if_pos rfl, if_neg a6] at z1
    rw [a9, if_pos rfl, if_neg (fun e => a6 e.symm)] at z2
    rw [if_neg (fun x => x.2 (by omega))] at b1
    rw [if_neg (fun x => x.2 (by omega))] at b2
    omega
theorem payN_more {g : Nat} : ∀ (n m : Nat) (l : List Int) (o : List DebN), GrpOK g l → nzF l ≤ n → nzF l ≤ m → payN g n (l, o) = payN g m (l, o) := by
  have stop : ∀ (l : List Int) (o : List DebN), frmF l g < 0 → ∀ n, payN g n (l, o) = (l, o) := fun l o h n => by
    cases n with
    | zero => rfl
    | succ n => rw [payN, if_pos h]
  intro n
  induction n with
  | zero =>
    intro m l o h hn hm
    by_cases hf : frmF l g < 0
    · rw [stop l o hf, stop l o hf]
    · obtain ⟨f, t, hp⟩ := frm_pos h hf
      have := (pay_nz h hp).1
      omega
  | succ n ih =>
    intro m l o h hn hm
    by_cases hf : frmF l g < 0
    · rw [stop l o hf, stop l o hf]
    · obtain ⟨f, t, hp⟩ := frm_pos h hf
      have := (pay_nz h hp).1
      cases m with
      | zero => omega
      | succ m =>
        rw [payN, payN, if_neg hf, if_neg hf]
        exact ih m (payL l g) (o ++ [payD l g]) (pay_ok h hp) (by omega) (by omega)
def payF (g : Nat) (st : List Int × List DebN) : List Int × List DebN := payN g (nzF st.1) st
theorem payF_stop {g : Nat} {l : List Int} {o : List DebN} (h : frmF l g < 0) : payF g (l, o) = (l, o) := by
  unfold payF; simp only
  cases nzF l with
  | zero => rfl
  | succ n => rw [payN, if_pos h]
theorem payF_step {g : Nat} {l : List Int} {o : List DebN} (h : GrpOK g l) (hf : ¬ frmF l g < 0) : payF g (l, o) = payF g (payL l g, o ++ [payD l g]) := by
  obtain ⟨f, t, hp⟩ := frm_pos h hf
  have hz := (pay_nz h hp).1
  unfold payF
  simp only
  rw [show nzF l = (nzF l - 1) + 1 from by omega, payN, if_neg hf]
  exact payN_more _ _ (payL l g) (o ++ [payD l g]) (pay_ok h hp) (by omega) (Nat.le_refl _)
def settS (b : List Int) (gs : List Nat) : List Int × List DebN := gs.foldl (fun st g => payF g st) (b, [])
def settF (b : List Int) (U : Nat) : List DebN := (settS b (gF b 256 U)).2
end Go.Proofs.YtgbcfpcjljhijaaDoor
namespace Go.Proofs.YtgbcfpcjljhijaaDoor
open Go.Vai Go
open Nat (reduceEqDiff reduceMul reduceAdd reduceDiv reduceLeDiff)
open Int (reduceToNat reduceNe reduceEq reduceLT reduceLE)
def Disj (a b : Nat) : Prop := ∀ i, a.testBit i = true → b.testBit i = false
structure IsDiv (b : List Int) (all : Nat) (gs : List Nat) : Prop where
  each : ∀ g ∈ gs, sumM b g = 0 ∧ Sub g all ∧ g ≠ 0
  apart : gs.Pairwise Disj
  cover : ∀ i, all.testBit i = true → ∃ g ∈ gs, g.testBit i = true
theorem sumK_less (b : List Int) {s all : Nat} (h : Sub s all) : ∀ n, sumK b (lessN all s) n = sumK b all n - sumK b s n
  | 0 => rfl
  | n + 1 => by
    rw [sumK, sumK, sumK, sumK_less b h n, lessN_bit]
    have := h n
    cases h1 : s.testBit n <;> cases h2 : all.testBit n <;> simp_all <;> omega
theorem sumM_less (b : List Int) {s all : Nat} (h : Sub s all) : sumM b (lessN all s) = sumM b all - sumM b s := sumK_less b h 8
theorem zero_of {s : Nat} (h : ∀ i, s.testBit i = false) : s = 0 := Nat.eq_of_testBit_eq fun i => by rw [h, Nat.zero_testBit]
theorem nonzero_bit {s : Nat} (h : s ≠ 0) : ∃ i, s.testBit i = true := Classical.byContradiction fun hn => h (zero_of fun i => by
  cases hs : s.testBit i with
  | false => rfl
  | true => exact absurd ⟨i, hs⟩ hn)
theorem bit_lt {s i : Nat} (h8 : s < 256) (h : s.testBit i = true) : i < 8 := Classical.byContradiction fun hn => by
  have : s.testBit i = false := Nat.testBit_lt_two_pow (Nat.lt_of_lt_of_le (show s < 2 ^ 8 from h8) (Nat.pow_le_pow_right (by omega) (by omega)))
  rw [this] at h; cases h
theorem div_cons {b : List Int} {all s : Nat} {gs : List Nat} (hs : Sub s all) (h0 : sumM b s = 0) (hne : s ≠ 0) (h : IsDiv b (lessN all s) gs) : IsDiv b all (s :: gs) := by
  refine ⟨fun g hg => ?_, List.pairwise_cons.2 ⟨fun g hg i hi => ?_, h.apart⟩, fun i hi => ?_⟩
  · rcases List.mem_cons.1 hg with rfl | hg
    · exact ⟨h0, hs, hne⟩
    · obtain ⟨a1, a2, a3⟩ := h.each g hg
      exact ⟨a1, fun i hi => by have := a2 i hi; rw [lessN_bit, Bool.and_eq_true] at this; exact this.1, a3⟩
  · cases hgi : g.testBit i with
    | false => rfl
    | true => have := (h.each g hg).2.1 i hgi; rw [lessN_bit, hi] at this; simp at this
  · by_cases hsi : s.testBit i = true
    · exact ⟨s, by simp, hsi⟩
    · obtain ⟨g, hg, hgi⟩ := h.cover i (by rw [lessN_bit, hi]; simp [hsi])
      exact ⟨g, by simp [hg], hgi⟩
theorem best_inv {b : List Int} {G : Nat → List Nat} {all : Nat} {P : List Nat → Prop} : ∀ (L : List Nat) (best : List Nat), (∀ s ∈ L, sumM b s = 0 → P (s :: G (lessN all s))) → (best = [] ∨ P best) →
    (L.foldl (bestF b G all) best = [] ∨ P (L.foldl (bestF b G all) best)) ∧ best.length ≤ (L.foldl (bestF b G all) best).length ∧ ∀ s ∈ L, sumM b s = 0 → (G (lessN all s)).length + 1 ≤ (L.foldl (bestF b G all) best).length
  | [], best, _, hb => ⟨hb, Nat.le_refl _, fun s hs => by cases hs⟩
  | s :: L, best, h, hb => by
    rw [List.foldl_cons]
    have step : (bestF b G all best s = [] ∨ P (bestF b G all best s)) ∧ best.length ≤ (bestF b G all best s).length ∧ (sumM b s = 0 → (G (lessN all s)).length + 1 ≤ (bestF b G all best s).length) := by
      unfold bestF
      split
      · rename_i h0
        split
        · rename_i hl
          exact ⟨.inr (h s (by simp) h0), by rw [List.length_cons]; omega, fun _ => by rw [List.length_cons]; omega⟩
        · exact ⟨hb, Nat.le_refl _, fun _ => by omega⟩
      · rename_i h0; exact ⟨hb, Nat.le_refl _, fun h => absurd h h0⟩
    obtain ⟨a1, a2, a3⟩ := best_inv L (bestF b G all best s) (fun t ht => h t (List.mem_cons_of_mem _ ht)) step.1
    refine ⟨a1, by have := step.2.1; omega, fun t ht h0 => ?_⟩
    rcases List.mem_cons.1 ht with rfl | ht
    · have := step.2.2 h0; omega
    · exact a3 t ht h0
theorem gF_div (b : List Int) : ∀ (n all : Nat), all < 256 → all < n → sumM b all = 0 → IsDiv b all (gF b n all) ∧ (all ≠ 0 → ∀ s, Sub s all → s.testBit (lowF all) = true → sumM b s = 0 → (gF b (n - 1) (lessN all s)).length + 1 ≤ (gF b n all).length)
  | n + 1, all, h8, hn, h0 => by
    rw [gF]
    split
    · rename_i e
      subst e
      exact ⟨IsDiv.mk (fun g hg => by cases hg) List.Pairwise.nil (fun i hi => by rw [Nat.zero_testBit] at hi; cases hi), fun h => absurd rfl h⟩
    · rename_i hne
      obtain ⟨hl, hl8, _⟩ := lowF_spec h8 hne
      have hmem := setsF_mem hl h8
      have key := best_inv (b := b) (G := gF b n) (all := all) (P := IsDiv b all) (setsF all (lowF all)) [] (fun s hs hs0 => by
        obtain ⟨h1, h2⟩ := (hmem s).1 hs
        have hlt := lessN_lt hl h2
        refine div_cons h1 hs0 (fun e => by subst e; rw [Nat.zero_testBit] at h2; cases h2) (gF_div b n (lessN all s) (by omega) (by omega) ?_).1
        rw [sumM_less b h1, h0, hs0]; rfl) (.inl rfl)
      obtain ⟨k1, _, k3⟩ := key
      have hall := k3 all ((hmem all).2 ⟨fun _ h => h, hl⟩) h0
      refine ⟨?_, fun _ s h1 h2 h3 => ?_⟩
      · rcases k1 with k1 | k1
        · rw [k1] at hall; simp at hall
        · exact k1
      · exact k3 s ((hmem s).2 ⟨h1, h2⟩) h3
def colK (b : List Int) (A : Nat) (h : Nat → Nat) (j : Nat) : Nat → Int
  | 0 => 0
  | i + 1 => colK b A h j i + if A.testBit i = true ∧ h i = j then gd b i else 0
structure Col (b : List Int) (A : Nat) (h : Nat → Nat) (L : List Nat) : Prop where
  nodup : L.Nodup
  mem : ∀ i, i < 8 → A.testBit i = true → h i ∈ L
  each : ∀ j ∈ L, (∃ i, i < 8 ∧ A.testBit i = true ∧ h i = j) ∧ colK b A h j 8 = 0
def maskK (A : Nat) (h : Nat → Nat) (j : Nat) : Nat → Nat
  | 0 => 0
  | i + 1 => if A.testBit i = true ∧ h i = j then maskK A h j i ||| 2 ^ i else maskK A h j i
theorem maskK_bit (A : Nat) (h : Nat → Nat) (j : Nat) : ∀ n i, (maskK A h j n).testBit i = (decide (i < n) && (A.testBit i && decide (h i = j)))
  | 0, i => by simp [maskK]
  | n + 1, i => by
    have ih := maskK_bit A h j n i
    rw [maskK]
    have e1 : ∀ (_ : i ≠ n), decide (i < n + 1) = decide (i < n) := fun hne => by by_cases hh : i < n <;> simp [hh] <;> omega
    split
    · rename_i hc
      rw [Nat.testBit_or, ih, Nat.testBit_two_pow]
      by_cases e : n = i
      · subst e; simp [hc.1, hc.2]
      · rw [e1 (fun x => e x.symm)]; simp [e]
    · rename_i hc
      rw [ih]
      by_cases e : i = n
      · subst e
        simp
        intro h1 h2; exact hc ⟨h1, h2⟩
      · rw [e1 e]
theorem maskK_sum (b : List Int) (A : Nat) (h : Nat → Nat) (j : Nat) : ∀ n, n ≤ 8 → sumK b (maskK A h j 8) n = colK b A h j n
  | 0, _ => rfl
  | n + 1, hn => by
    rw [sumK, colK, maskK_sum b A h j n (by omega), maskK_bit]
    congr 1
    by_cases hc : A.testBit n = true ∧ h n = j
    · rw [if_pos hc, hc.1, decide_eq_true hc.2, decide_eq_true (show n < 8 by omega)]; rfl
    · rw [if_neg hc]
      cases hA : A.testBit n with
      | false => simp
      | true => rw [hA] at hc; simp at hc; simp [hc]
theorem colK_congr (b : List Int) {A B : Nat} {h : Nat → Nat} {j : Nat} (hAB : ∀ i, i < 8 → h i = j → A.testBit i = B.testBit i) : ∀ n, n ≤ 8 → colK b A h j n = colK b B h j n
  | 0, _ => rfl
  | n + 1, hn => by
    rw [colK, colK, colK_congr b hAB n (by omega)]
    congr 1
    by_cases e : h n = j
    · rw [hAB n (by omega) e]
    · rw [if_neg (fun x => e x.2), if_neg (fun x => e x.2)]
theorem Col.erase {b : List Int} {A : Nat} {h : Nat → Nat} {L : List Nat} (hc : Col b A h L) {j : Nat} (hj : j ∈ L) : Col b (lessN A (maskK A h j 8)) h (L.erase j) := by
  have bit : ∀ i, i < 8 → (lessN A (maskK A h j 8)).testBit i = (A.testBit i && !decide (h i = j)) := fun i hi => by
    rw [lessN_bit, maskK_bit, decide_eq_true hi]
    cases A.testBit i <;> simp
  refine ⟨hc.nodup.erase j, fun i hi hb => ?_, fun k hk => ?_⟩
  · rw [bit i hi] at hb
    simp at hb
    exact (List.mem_erase_of_ne hb.2).2 (hc.mem i hi hb.1)
  · obtain ⟨hkj, hk⟩ := (hc.nodup.mem_erase_iff).1 hk
    obtain ⟨⟨i, h1, h2, h3⟩, h4⟩ := hc.each k hk
    refine ⟨⟨i, h1, by rw [bit i h1, h2, h3]; simp [hkj], h3⟩, ?_⟩
    rw [← h4]
    exact colK_congr b (fun i hi e => by rw [bit i hi, e]; simp [hkj]) 8 (Nat.le_refl _)
theorem maskK_sub (A : Nat) (h : Nat → Nat) (j : Nat) : Sub (maskK A h j 8) A := fun i hi => by
  rw [maskK_bit] at hi
  simp at hi; exact hi.2.1
theorem Col.sum {b : List Int} {A : Nat} {h : Nat → Nat} {L : List Nat} (hc : Col b A h L) {j : Nat} (hj : j ∈ L) : sumM b (maskK A h j 8) = 0 := by
  rw [sumM, maskK_sum b A h j 8 (Nat.le_refl _)]; exact (hc.each j hj).2
theorem Col.le (b : List Int) : ∀ (n A : Nat) (h : Nat → Nat) (L : List Nat), A < 256 → A < n → sumM b A = 0 → Col b A h L → L.length ≤ (gF b n A).length
  | n + 1, A, h, L, h8, hn, h0, hc => by
    by_cases e : A = 0
    · subst e
      cases L with
      | nil => simp
      | cons j L =>
        obtain ⟨⟨i, _, h2, _⟩, _⟩ := hc.each j (by simp)
        rw [Nat.zero_testBit] at h2; cases h2
    · obtain ⟨hl, hl8, _⟩ := lowF_spec h8 e
      have hj := hc.mem _ hl8 hl
      have hb : (maskK A h (h (lowF A)) 8).testBit (lowF A) = true := by rw [maskK_bit, hl]; simp [hl8]
      have hlt := lessN_lt hl hb
      have hmax := (gF_div b (n + 1) A h8 hn h0).2 e _ (maskK_sub A h _) hb (hc.sum hj)
      rw [Nat.add_sub_cancel] at hmax
      have ih := Col.le b n (lessN A (maskK A h (h (lowF A)) 8)) h _ (by omega) (by omega) (by rw [sumM_less b (maskK_sub A h _), h0, hc.sum hj]; rfl) (hc.erase hj)
      rw [List.length_erase_of_mem hj] at ih
      have := List.length_pos_of_mem hj
      omega
end Go.Proofs.YtgbcfpcjljhijaaDoor
namespace Go.Proofs.YtgbcfpcjljhijaaDoor
open Go.Vai Go
open Nat (reduceEqDiff reduceMul reduceAdd reduceDiv reduceLeDiff)
open Int (reduceToNat reduceNe reduceEq reduceLT reduceLE)
def balS (p : List DebN) (c : Nat) : Int := (p.map (getsF c)).sum
structure Paid (b l : List Int) (o : List DebN) : Prop where
  bal : ∀ c, c < 8 → gd l c + balS o c = gd b c
  btw : ∀ c, c < 8 → (gd b c ≤ gd l c ∧ gd l c ≤ 0) ∨ (0 ≤ gd l c ∧ gd l c ≤ gd b c)
  deb : ∀ d ∈ o, ¬ badF 1000000000000 d ∧ gd b d.1.toNat < 0 ∧ 0 < gd b d.2.1.toNat
theorem paid_step {b l : List Int} {o : List DebN} {g : Nat} (h : GrpOK g l) (hp : Paid b l o) (hf : ¬ frmF l g < 0) : Paid b (payL l g) (o ++ [payD l g]) := by
  obtain ⟨f, t, hpay⟩ := frm_pos h hf
  obtain ⟨a1, a2, a3, a4, a5, a6, _, a8, a9⟩ := pay_at h hpay
  have f8 := hpay.f8
  have t8 := hpay.t8
  have hfn := hpay.fneg
  have htp := hpay.tpos
  have ed : payD l g = ((f : Int), (t : Int), amtF l g) := by unfold payD; rw [hpay.frm, hpay.to]
  refine ⟨fun c hc => ?_, fun c hc => ?_, fun d hd => ?_⟩
  · have := hp.bal c hc
    rw [a9 c, ← this, ed]
    unfold balS
    rw [List.map_append, List.sum_append]
    simp only [List.map_cons, List.map_nil, List.sum_cons, List.sum_nil, getsF]
    have e1 : ((c : Int) = (f : Int)) ↔ c = f := by omega
    have e2 : ((c : Int) = (t : Int)) ↔ c = t := by omega
    simp only [e1, e2]
    split <;> split <;> omega
  · have := hp.btw c hc
    rw [a9 c]
    by_cases e1 : c = f
    · subst e1; rw [if_pos rfl, if_neg a6]; omega
    · by_cases e2 : c = t
      · subst e2; rw [if_neg e1, if_pos rfl]; omega
      · rw [if_neg e1, if_neg e2]; omega
  · rcases List.mem_append.1 hd with hd | hd
    · exact hp.deb d hd
    · rw [List.mem_singleton] at hd
      rw [hd, ed]
      have b1 := hp.btw f f8
      have b2 := hp.btw t t8
      refine ⟨?_, ?_, ?_⟩
      · unfold badF; simp only; omega
      · simp only [Int.toNat_natCast]; omega
      · simp only [Int.toNat_natCast]; omega
theorem sumK_congr {l m : List Int} {s : Nat} : ∀ n, (∀ i, i < n → s.testBit i = true → gd l i = gd m i) → sumK l s n = sumK m s n
  | 0, _ => rfl
  | n + 1, h => by
    rw [sumK, sumK, sumK_congr n fun i hi => h i (by omega)]
    congr 1
    split
    · rename_i hb; exact h n (by omega) hb
    · rfl
theorem pay_all (b : List Int) (g : Nat) : ∀ (n : Nat) (l : List Int) (o : List DebN), nzF l ≤ n → GrpOK g l → Paid b l o →
    GrpOK g (payF g (l, o)).1 ∧ Paid b (payF g (l, o)).1 (payF g (l, o)).2 ∧ (∀ c, c < 8 → g.testBit c = true → gd (payF g (l, o)).1 c = 0) ∧ (∀ c, g.testBit c = false → gd (payF g (l, o)).1 c = gd l c) ∧
    (payF g (l, o)).2.length + nzF (payF g (l, o)).1 ≤ o.length + nzF l ∧ (hasF g l → (payF g (l, o)).2.length + nzF (payF g (l, o)).1 + 1 ≤ o.length + nzF l) := by
  intro n
  induction n with
  | zero =>
    intro l o hn h hp
    by_cases hf : frmF l g < 0
    · rw [payF_stop hf]
      have hz := frm_neg h hf
      exact ⟨h, hp, hz, fun _ _ => rfl, Nat.le_refl _, fun ⟨i, hi, hb, h0⟩ => absurd (hz i hi hb) h0⟩
    · obtain ⟨f, t, hpay⟩ := frm_pos h hf
      have := (pay_nz h hpay).1
      omega
  | succ n ih =>
    intro l o hn h hp
    by_cases hf : frmF l g < 0
    · rw [payF_stop hf]
      have hz := frm_neg h hf
      exact ⟨h, hp, hz, fun _ _ => rfl, Nat.le_refl _, fun ⟨i, hi, hb, h0⟩ => absurd (hz i hi hb) h0⟩
    · obtain ⟨f, t, hpay⟩ := frm_pos h hf
      obtain ⟨z1, z2⟩ := pay_nz h hpay
      obtain ⟨_, _, _, _, _, a6, _, a8, a9⟩ := pay_at h hpay
      obtain ⟨i1, i2, i3, i4, i5, i6⟩ := ih (payL l g) (o ++ [payD l g]) (by omega) (pay_ok h hpay) (paid_step h hp hf)
      rw [payF_step h hf]
      rw [List.length_append, List.length_singleton] at i5 i6
      have key : (payF g (payL l g, o ++ [payD l g])).2.length + nzF (payF g (payL l g, o ++ [payD l g])).1 + 1 ≤ o.length + nzF l := by
        by_cases hh : hasF g (payL l g)
        · have := i6 hh; omega
        · have := z2 hh; omega
      refine ⟨i1, i2, i3, fun c hc => ?_, by omega, fun _ => key⟩
      rw [i4 c hc, a9 c, if_neg (fun e => by subst e; rw [hpay.fg] at hc; cases hc), if_neg (fun e => by subst e; rw [hpay.tg] at hc; cases hc)]; omega
theorem sett_all (b : List Int) : ∀ (gs : List Nat) (l : List Int) (o : List DebN), gs.Pairwise Disj → l.length = 8 → (∀ i, i < 8 → -1000000000000 ≤ gd l i ∧ gd l i ≤ 1000000000000) →
    (∀ g ∈ gs, sumM l g = 0 ∧ ∃ c, c < 8 ∧ g.testBit c = true ∧ gd l c ≠ 0) → Paid b l o →
    Paid b (gs.foldl (fun st g => payF g st) (l, o)).1 (gs.foldl (fun st g => payF g st) (l, o)).2 ∧
    (∀ g ∈ gs, ∀ c, c < 8 → g.testBit c = true → gd (gs.foldl (fun st g => payF g st) (l, o)).1 c = 0) ∧
    (∀ c, (∀ g ∈ gs, g.testBit c = false) → gd (gs.foldl (fun st g => payF g st) (l, o)).1 c = gd l c) ∧
    (gs.foldl (fun st g => payF g st) (l, o)).2.length + nzF (gs.foldl (fun st g => payF g st) (l, o)).1 + gs.length ≤ o.length + nzF l
  | [], l, o, _, _, _, _, hp => ⟨hp, fun g hg => (by cases hg), fun _ _ => rfl, by simp⟩
  | g :: gs, l, o, hpw, hl, hr, hg, hp => by
    obtain ⟨hd, hpw⟩ := List.pairwise_cons.1 hpw
    obtain ⟨h0, hc⟩ := hg g (by simp)
    obtain ⟨i1, i2, i3, i4, _, i6⟩ := pay_all b g (nzF l) l o (Nat.le_refl _) ⟨hl, hr, h0⟩ hp
    have i6 := i6 hc
    rw [List.foldl_cons]
    generalize payF g (l, o) = st at *
    obtain ⟨l', o'⟩ := st
    simp only at i1 i2 i3 i4 i6
    have off : ∀ s ∈ gs, ∀ c, s.testBit c = true → gd l' c = gd l c := fun s hs c hc => i4 c (by
      cases hgc : g.testBit c with
      | false => rfl
      | true => have := hd s hs c hgc; rw [hc] at this; cases this)
    obtain ⟨k1, k2, k3, k4⟩ := sett_all b gs l' o' hpw i1.len i1.rng (fun s hs => by
      obtain ⟨e0, c, hc8, hc, hne⟩ := hg s (List.mem_cons_of_mem _ hs)
      refine ⟨?_, c, hc8, hc, by rw [off s hs c hc]; exact hne⟩
      rw [← e0]; exact sumK_congr 8 fun i hi hb => off s hs i hb) i2
    refine ⟨k1, fun s hs c hc8 hcb => ?_, fun c hc => ?_, by rw [List.length_cons]; omega⟩
    · rcases List.mem_cons.1 hs with rfl | hs
      · rw [k3 c (fun s' hs' => by
          have := hd s' hs' c hcb; exact this), i3 c hc8 hcb]
      · exact k2 s hs c hc8 hcb
    · rw [k3 c (fun s hs => hc s (List.mem_cons_of_mem _ hs)), i4 c (hc g (by simp))]
def usedK (b : List Int) : Nat → Nat
  | 0 => 0
  | c + 1 => if gd b c = 0 then usedK b c else usedK b c ||| 2 ^ c
def usedF (b : List Int) : Nat := usedK b 8
theorem usedK_lt (b : List Int) : ∀ c, usedK b c < 2 ^ c
  | 0 => by simp [usedK]
  | c + 1 => by
    have := usedK_lt b c
    rw [usedK]
    split
    · rw [Nat.pow_succ]; omega
    · exact Nat.or_lt_two_pow (by rw [Nat.pow_succ]; omega) (Nat.pow_lt_pow_right (by omega) (by omega))
theorem usedF_lt (b : List Int) : usedF b < 256 := usedK_lt b 8
theorem usedK_bit (b : List Int) : ∀ c i, (usedK b c).testBit i = (decide (i < c) && decide (gd b i ≠ 0))
  | 0, i => by simp [usedK]
  | c + 1, i => by
    have ih := usedK_bit b c i
    rw [usedK]
    split
    · rename_i h
      rw [ih]
      by_cases e : i = c
      · subst e; simp [h]
      · have : decide (i < c) = decide (i < c + 1) := by by_cases h : i < c <;> simp [h] <;> omega
        rw [this]
    · rename_i h
      rw [Nat.testBit_or, ih, Nat.testBit_two_pow]
      by_cases e : c = i
      · subst e; simp [h]
      · have : decide (i < c) = decide (i < c + 1) := by by_cases h : i < c <;> simp [h] <;> omega
        rw [this]; simp [e]
theorem usedF_bit (b : List Int) (i : Nat) (hi : i < 8) : (usedF b).testBit i = decide (gd b i ≠ 0) := by
  rw [usedF, usedK_bit]; simp [hi]
theorem sum_used (b : List Int) : ∀ n, n ≤ 8 → sumK b (usedF b) n = sumK b 255 n
  | 0, _ => rfl
  | n + 1, hn => by
    have h255 : ∀ i, i < 8 → (255 : Nat).testBit i = true := by decide
    rw [sumK, sumK, sum_used b n (by omega), usedF_bit b n (by omega), h255 n (by omega)]
    by_cases h : gd b n = 0 <;> simp [h]
theorem sum_list (b : List Int) (h : b.length = 8) : sumK b 255 8 = b.sum := by
  match b, h with
  | [a0, a1, a2, a3, a4, a5, a6, a7], _ =>
    have e : ∀ i, i < 8 → (255 : Nat).testBit i = true := by decide
    simp only [sumK, e 0 (by omega), e 1 (by omega), e 2 (by omega), e 3 (by omega), e 4 (by omega), e 5 (by omega), e 6 (by omega), e 7 (by omega), if_true, gd_cons_zero, gd_cons_succ, List.sum_cons, List.sum_nil]
    omega
theorem good_rng {b : List Int} (hb : goodF b = true) : b.length = 8 ∧ (∀ i, i < 8 → -1000000000000 ≤ gd b i ∧ gd b i ≤ 1000000000000) ∧ sumM b (usedF b) = 0 := by
  obtain ⟨g1, g2, g3⟩ := (goodF_iff b).1 hb
  exact ⟨g2, fun i hi => (inF_iff _ _ _).1 (g1 i (by omega)), by rw [sumM, sum_used b 8 (Nat.le_refl _), sum_list b g2, g3]⟩
def grpsF (b : List Int) : List Nat := gF b 256 (usedF b)
theorem grps_div {b : List Int} (hb : goodF b = true) : IsDiv b (usedF b) (grpsF b) := (gF_div b 256 _ (usedF_lt b) (usedF_lt b) (good_rng hb).2.2).1
theorem grps_has {b : List Int} (hb : goodF b = true) {g : Nat} (hg : g ∈ grpsF b) : g < 256 ∧ sumM b g = 0 ∧ ∃ c, c < 8 ∧ g.testBit c = true ∧ gd b c ≠ 0 := by
  obtain ⟨h1, h2, h3⟩ := (grps_div hb).each g hg
  have h8 : g < 256 := Nat.lt_of_le_of_lt h2.le (usedF_lt b)
  obtain ⟨i, hi⟩ := nonzero_bit h3
  have hi8 := bit_lt h8 hi
  have := h2 i hi
  rw [usedF_bit b i hi8, decide_eq_true_iff] at this
  exact ⟨h8, h1, i, hi8, hi, this⟩
theorem paid_nil (b : List Int) : Paid b b [] := ⟨fun c _ => by simp [balS], fun c _ => by omega, fun d hd => by cases hd⟩
theorem settF_spec {b : List Int} (hb : goodF b = true) : (∀ c, c < 8 → balS (settF b (usedF b)) c = gd b c) ∧ (∀ d ∈ settF b (usedF b), ¬ badF 1000000000000 d ∧ gd b d.1.toNat < 0 ∧ 0 < gd b d.2.1.toNat) ∧
    (settF b (usedF b)).length + (grpsF b).length ≤ nzF b := by
  obtain ⟨h8, hr, _⟩ := good_rng hb
  have hdiv := grps_div hb
  obtain ⟨k1, k2, k3, k4⟩ := sett_all b (grpsF b) b [] hdiv.apart h8 hr (fun g hg => (grps_has hb hg).2) (paid_nil b)
  have hz : ∀ c, c < 8 → gd ((grpsF b).foldl (fun st g => payF g st) (b, [])).1 c = 0 := fun c hc => by
    by_cases hu : gd b c = 0
    · rw [k3 c fun g hg => ?_, hu]
      cases hgc : g.testBit c with
      | false => rfl
      | true =>
        have := (hdiv.each g hg).2.1 c hgc
        rw [usedF_bit b c hc] at this; simp [hu] at this
    · obtain ⟨g, hg, hgc⟩ := hdiv.cover c (by rw [usedF_bit b c hc]; simpa using hu)
      exact k2 g hg c hc hgc
  refine ⟨fun c hc => ?_, k1.deb, ?_⟩
  · have := k1.bal c hc
    rw [hz c hc, Int.zero_add] at this; exact this
  · rw [List.length_nil, Nat.zero_add] at k4
    exact Nat.le_trans (Nat.add_le_add_right (Nat.le_add_right _ _) _) k4
theorem bal_eq {p : List DebN} {limit : Int} (h : ∀ i, i < p.length → ¬ badF limit (gd p i)) {c : Nat} (hc : c < 8) : gd (balF p) c = balS p c := by
  rw [balF, balN_gd p h _ (Nat.le_refl _) c hc, List.take_length]; rfl
theorem bal_of {p : List DebN} {b : List Int} (hb : b.length = 8) {limit : Int} (h : ∀ i, i < p.length → ¬ badF limit (gd p i)) (hp : ∀ c, c < 8 → balS p c = gd b c) : balF p = b :=
  gd_ext (by rw [balF, balN_length, hb]) fun c hc => by
    rw [balF, balN_length] at hc
    rw [bal_eq h hc, hp c hc]
theorem settF_check {b : List Int} (hb : goodF b = true) : checkFN b (settF b (usedF b)) = true := by
  obtain ⟨h1, h2, h3⟩ := settF_spec hb
  have hz := nzK_le b 8
  have hok : ∀ i, i < (settF b (usedF b)).length → ¬ badF 1000000000000 (gd (settF b (usedF b)) i) := fun i hi => (h2 _ (gd_mem _ i hi)).1
  unfold checkFN
  rw [hb, (debtsF_iff _ _).2 ⟨by unfold nzF at h3; omega, hok⟩, bal_of (good_rng hb).1 hok h1]; simp
theorem payN_len (g : Nat) : ∀ (n : Nat) (st : List Int × List DebN), (payN g n st).1.length = st.1.length
  | 0, _ => rfl
  | n + 1, st => by
    rw [payN]
    split
    · rfl
    · rw [payN_len g n]; simp only; unfold payL; rw [addF_lengthN, addF_lengthN]
theorem sett_len : ∀ (gs : List Nat) (st : List Int × List DebN), (gs.foldl (fun st g => payF g st) st).1.length = st.1.length
  | [], _ => rfl
  | g :: gs, st => by rw [List.foldl_cons, sett_len gs]; exact payN_len g _ st
theorem sett_at {b : List Int} (hb : goodF b = true) (i : Nat) (hi : i < (grpsF b).length) : GrpOK (gd (grpsF b) i) (((grpsF b).take i).foldl (fun st g => payF g st) (b, [])).1 ∧
    (((grpsF b).take i).foldl (fun st g => payF g st) (b, [])).2.length + nzF (((grpsF b).take i).foldl (fun st g => payF g st) (b, [])).1 ≤ 8 := by
  obtain ⟨h8, hr, _⟩ := good_rng hb
  have hdiv := grps_div hb
  obtain ⟨k1, _, k3, k4⟩ := sett_all b ((grpsF b).take i) b [] (hdiv.apart.sublist (List.take_sublist _ _)) h8 hr (fun g hg => (grps_has hb (List.mem_of_mem_take hg)).2) (paid_nil b)
  have hz := nzK_le b 8
  refine ⟨⟨by rw [sett_len, h8], fun c hc => ?_, ?_⟩, ?_⟩
  · have := k1.btw c hc; have := hr c hc; omega
  · rw [← (grps_has hb (gd_mem _ i hi)).2.1]
    refine sumK_congr 8 fun c _ hc => k3 c fun g hg => ?_
    cases hgc : g.testBit c with
    | false => rfl
    | true =>
      obtain ⟨j, hj⟩ := List.getElem?_of_mem hg
      rw [List.getElem?_take] at hj
      split at hj
      · rename_i hji
        have hjl := (List.getElem?_eq_some_iff.1 hj)
        have e := gd_some (grpsF b) i hi
        have := List.pairwise_iff_getElem.1 hdiv.apart j i hjl.1 hi hji c (by rw [hjl.2]; exact hgc)
        have e2 : (grpsF b)[i] = gd (grpsF b) i := by rw [List.getElem?_eq_getElem hi] at e; exact Option.some.inj e
        rw [e2, hc] at this; cases this
      · cases hj
  · rw [List.length_nil, Nat.zero_add] at k4
    unfold nzF at k4 ⊢
    omega
theorem take_fold {b : List Int} (gs : List Nat) (i : Nat) (hi : i < gs.length) : (gs.take (i + 1)).foldl (fun st g => payF g st) (b, []) = payF (gd gs i) ((gs.take i).foldl (fun st g => payF g st) (b, [])) := by
  rw [List.take_add_one, gd_some gs i hi, List.foldl_append]; rfl
end Go.Proofs.YtgbcfpcjljhijaaDoor
set_option maxRecDepth 100000
namespace Go.Proofs.YtgbcfpcjljhijaaDoor
open Go.Vai Go Go.Proofs
open Nat (reduceEqDiff reduceMul reduceAdd reduceDiv reduceLeDiff)
open Int (reduceToNat reduceNe reduceEq reduceLT reduceLE)
theorem moN : Tryd.prog.follows .mixedOrders = true := by kernel_rfl
theorem isIn_ev (n lo hi : Int) : Ev Tryd.prog 99 [I n, I lo, I hi] (B (inFN n lo hi)) := by
  refine ev_of Tryd.func99 rfl (by kernel_rfl) moN (Nat.le_of_ble_eq_true rfl) ?_
  simp -implicitDefEqProofs (disch := omega) only [go_sem, Tryd.ntmps99]
  refine branch_mk (fun h => ?_) (fun h => ?_) <;> simp -implicitDefEqProofs (disch := omega) only [go_sem, Tryd.results99]
  · simp [inFN, h]
  · simp [inFN, h]
theorem areDebts1_ev (limit : Int) (d : DebN) : Ev Tryd.prog 101 [DPN d, .pt (I limit) 0] (B (decide (badF limit d))) := by
  refine ev_of Tryd.func101 rfl (by kernel_rfl) moN (Nat.le_of_ble_eq_true rfl) ?_
  simp -implicitDefEqProofs (disch := omega) only [go_sem, Tryd.ntmps101]
  refine callC_at (isIn_ev _ _ _) ?_
  simp -implicitDefEqProofs (disch := omega) only [go_sem]
  refine branch_mk (fun hb => ?_) (fun hb => ?_)
  · have hb1 := (inF_not _ _ _).1 hb
    simp -implicitDefEqProofs (disch := omega) only [go_sem, Tryd.results101]
    rw [decide_eq_true (p := badF limit d) (.inl hb1)]
  · have hb1 := (inF_iff _ _ _).1 (by simpa using hb)
    simp -implicitDefEqProofs (disch := omega) only [go_sem]
    refine callC_at (isIn_ev _ _ _) ?_
    simp -implicitDefEqProofs (disch := omega) only [go_sem]
    refine branch_mk (fun hb => ?_) (fun hb => ?_)
    · have hb2 := (inF_not _ _ _).1 hb
      simp -implicitDefEqProofs (disch := omega) only [go_sem, Tryd.results101]
      rw [decide_eq_true (p := badF limit d) (.inr (.inl hb2))]
    · have hb2 := (inF_iff _ _ _).1 (by simpa using hb)
      simp -implicitDefEqProofs (disch := omega) only [go_sem]
      refine branch_mk (fun hb3 => ?_) (fun hb3 => ?_)
      · simp -implicitDefEqProofs (disch := omega) only [go_sem, Tryd.results101]
        rw [decide_eq_true (p := badF limit d) (.inr (.inr (.inl hb3)))]
      · simp -implicitDefEqProofs (disch := omega) only [go_sem]
        refine callC_at (isIn_ev _ _ _) ?_
        simp -implicitDefEqProofs (disch := omega) only [go_sem, Tryd.results101]
        have e : badF limit d ↔ inFN d.2.2 1 limit = false := by
          rw [inF_not]; unfold badF; omega
        simp only [e]
        cases inFN d.2.2 1 limit <;> rfl
end Go.Proofs.YtgbcfpcjljhijaaDoor
set_option maxRecDepth 100000
namespace Go.Proofs.YtgbcfpcjljhijaaDoor
open Go.Vai Go Go.Proofs
open Nat (reduceEqDiff reduceMul reduceAdd reduceDiv reduceLeDiff)
open Int (reduceToNat reduceNe reduceEq reduceLT reduceLE)
theorem index_ev (l : List DebN) (limit : Int) (hl : l.length ≤ 1000000) : Ev Tryd.prog 110 [DL l, .clo 101 [.pt (I limit) 0]] (I (findF limit l 0 l.length)) := by
  refine ev_of Tryd.func110 rfl (by kernel_rfl) moN (Nat.le_of_ble_eq_true rfl) ?_
  simp -implicitDefEqProofs (disch := omega) only [go_sem, Tryd.ntmps110]
  refine loopC_mk (fun n E σ => ∃ v : Nat, v + n = l.length ∧ E 0 = DL l ∧ E 1 = .clo 101 [.pt (I limit) 0] ∧ E 7 = I l.length ∧ E 8 = I v ∧ findF limit l 0 l.length = findF limit l v n) l.length ⟨0, by omega, ?_⟩ ?_
  · simp -implicitDefEqProofs (disch := omega) only [go_sem]
    simp
  · rintro n E σ ⟨v, hv, h0, h1, h7, h8, hall⟩
    simp -implicitDefEqProofs (disch := omega) only [go_sem, h0, h1, h7, h8]
    refine branch_mk (fun hc => ?_) (fun hc => ?_)
    · simp -implicitDefEqProofs (disch := omega) only [go_sem, h0, h1, h7, h8]
      refine callC_at (areDebts1_ev _ _) ?_
      simp -implicitDefEqProofs (disch := omega) only [go_sem, h0, h1, h7, h8]
      obtain ⟨m, rfl⟩ : ∃ m, n = m + 1 := ⟨n - 1, by omega⟩
      refine branch_mk (fun hb => ?_) (fun hb => ?_)
      · simp -implicitDefEqProofs (disch := omega) only [go_sem, Tryd.results110]
        rw [hall]; simp [findF, hb]
      · simp -implicitDefEqProofs (disch := omega) only [go_sem, h0, h1, h7, h8]
        refine againQ_mk m (by omega) ⟨v + 1, by omega, ?_⟩
        simp -implicitDefEqProofs (disch := omega) only [go_sem, h0, h1, h7, h8]
        refine ⟨by simp, ?_⟩
        rw [hall]; simp [findF, hb]
    · simp -implicitDefEqProofs (disch := omega) only [go_sem, Tryd.results110]
      have : n = 0 := by omega
      subst this; rw [hall]; rfl
theorem contains_ev (l : List DebN) (limit : Int) (hl : l.length ≤ 1000000) : Ev Tryd.prog 102 [DL l, .clo 101 [.pt (I limit) 0]] (B (decide (0 ≤ findF limit l 0 l.length))) := by
  refine ev_of Tryd.func102 rfl (by kernel_rfl) moN (Nat.le_of_ble_eq_true rfl) ?_
  simp -implicitDefEqProofs (disch := omega) only [go_sem, Tryd.ntmps102]
  refine callC_at (index_ev l limit hl) ?_
  simp -implicitDefEqProofs (disch := omega) only [go_sem, Tryd.results102]
theorem areDebts_ev (l : List DebN) (limit : Int) (hl : l.length ≤ 9223372036854775807) : Ev Tryd.prog 73 [DL l, I limit] (B (debtsF l limit)) := by
  refine ev_of Tryd.func73 rfl (by kernel_rfl) moN (Nat.le_of_ble_eq_true rfl) ?_
  simp -implicitDefEqProofs (disch := omega) only [go_sem, Tryd.ntmps73]
  refine branch_mk (fun hb => ?_) (fun hb => ?_)
  · simp -implicitDefEqProofs (disch := omega) only [go_sem]
    refine callC_at (contains_ev l limit (by omega)) ?_
    simp -implicitDefEqProofs (disch := omega) only [go_sem, Tryd.results73]
    rw [debts_find l limit (by omega)]
  · simp -implicitDefEqProofs (disch := omega) only [go_sem, Tryd.results73]
    have : ¬ l.length ≤ 60 := by omega
    simp [debtsF, this]
end Go.Proofs.YtgbcfpcjljhijaaDoor
set_option maxRecDepth 100000
namespace Go.Proofs.YtgbcfpcjljhijaaDoor
open Go.Vai Go Go.Proofs
open Nat (reduceEqDiff reduceMul reduceAdd reduceDiv reduceLeDiff)
open Int (reduceToNat reduceNe reduceEq reduceLT reduceLE)
theorem balances_ev (l : List DebN) (limit : Int) (hl : limit ≤ 1000000000000) (h0 : 0 ≤ limit) (hd : debtsF l limit = true) : Ev Tryd.prog 66 [DL l] (.new 3 1 ((balF l).map I)) := by
  obtain ⟨g1, g2⟩ := (debtsF_iff l limit).1 hd
  refine ev_of Tryd.func66 rfl (by kernel_rfl) moN (Nat.le_of_ble_eq_true rfl) ?_
  simp -implicitDefEqProofs (disch := omega) only [go_sem, Tryd.ntmps66]
  refine loopC_mk (fun n E σ => ∃ v : Nat, v + n = l.length ∧ E 3 = .own 140509280 1 0 8 ∧ E 7 = DL l ∧ E 8 = I l.length ∧ E 9 = I v ∧ σ 140509280 = some ⟨3, 1, (balN l v).map I⟩) l.length ⟨0, by omega, ?_⟩ ?_
  · simp -implicitDefEqProofs (disch := omega) only [go_sem]
    simp [balN]
  · rintro n E σ ⟨v, hv, h3, h7, h8, h9, hs⟩
    simp -implicitDefEqProofs (disch := omega) only [go_sem, h3, h7, h8, h9, hs]
    have hlen := balN_length l v
    refine branch_mk (fun hc => ?_) (fun hc => ?_)
    · have hb := g2 v (by omega)
      unfold badF at hb
      obtain ⟨w1, w2, w3, w4, _⟩ := balN_step l g2 h0 hl g1 v (by omega)
      have hlen2 := addF_lengthN (balN l v) (gd l v).1 (-(gd l v).2.2)
      simp -implicitDefEqProofs (disch := omega) only [go_sem, h3, h7, h8, h9, hs, w1, w2, w3, w4]
      refine againQ_mk (n - 1) (by omega) ⟨v + 1, by omega, ?_⟩
      simp -implicitDefEqProofs (disch := omega) only [go_sem, h3, h7, h8, h9, hs]
      simp
    · have e : v = l.length := by omega
      subst e
      have e8 : (balN l l.length).take 8 = balF l := List.take_of_length_le (by omega)
      simp -implicitDefEqProofs (disch := omega) only [go_sem, h3, h7, h8, h9, hs, e8, Tryd.results66]
end Go.Proofs.YtgbcfpcjljhijaaDoor
set_option maxRecDepth 100000
namespace Go.Proofs.YtgbcfpcjljhijaaDoor
open Go.Vai Go Go.Proofs
open Nat (reduceEqDiff reduceMul reduceAdd reduceDiv reduceLeDiff)
open Int (reduceToNat reduceNe reduceEq reduceLT reduceLE)
theorem valid_evN (l : List DebN) (hl : l.length ≤ 9223372036854775807) : Ev Tryd.prog 65 [DL l] (B (debtsF l 1000000000)) := by
  refine ev_of Tryd.func65 rfl (by kernel_rfl) moN (Nat.le_of_ble_eq_true rfl) ?_
  simp -implicitDefEqProofs (disch := omega) only [go_sem, Tryd.ntmps65]
  refine callC_at (areDebts_ev l _ hl) ?_
  simp -implicitDefEqProofs (disch := omega) only [go_sem, Tryd.results65]
theorem bal_ev (l : List DebN) (hl : l.length ≤ 9223372036854775807) : Ev Tryd.prog 37 [DL l] (balR l) := by
  refine ev_of Tryd.func37 rfl (by kernel_rfl) moN (Nat.le_of_ble_eq_true rfl) ?_
  simp -implicitDefEqProofs (disch := omega) only [go_sem, Tryd.ntmps37]
  refine callC_at (valid_evN l hl) ?_
  simp -implicitDefEqProofs (disch := omega) only [go_sem]
  refine branch_mk (fun hb => ?_) (fun hb => ?_)
  · simp -implicitDefEqProofs (disch := omega) only [go_sem, Tryd.results37]
    simp [balR, hb]
  · have hb : debtsF l 1000000000 = true := by simpa using hb
    simp -implicitDefEqProofs (disch := omega) only [go_sem]
    refine callC_at (balances_ev l _ (by decide) (by decide) hb) ?_
    simp -implicitDefEqProofs (disch := omega) only [go_sem, Tryd.results37]
    simp [balR, hb]
theorem isGood_ev (l : List Int) (hl : l.length ≤ 9223372036854775807) : Ev Tryd.prog 67 [SL l] (B (goodF l)) := by
  refine ev_of Tryd.func67 rfl (by kernel_rfl) moN (Nat.le_of_ble_eq_true rfl) ?_
  simp -implicitDefEqProofs (disch := omega) only [go_sem, Tryd.ntmps67]
  refine loopC_mk (fun n E σ => ∃ v : Nat, v + n = l.length ∧ E 0 = SL l ∧ E 3 = I (sumW l v) ∧ E 6 = SL l ∧ E 7 = I l.length ∧ E 8 = I v ∧ ∀ i, i < v → inFN (gd l i) (-1000000000000) 1000000000000 = true) l.length ⟨0, by omega, ?_⟩ ?_
  · simp -implicitDefEqProofs (disch := omega) only [go_sem]
    simp [sumW]
  · rintro n E σ ⟨v, hv, h0, h3, h6, h7, h8, hall⟩
    simp -implicitDefEqProofs (disch := omega) only [go_sem, h0, h3, h6, h7, h8]
    refine branch_mk (fun hc => ?_) (fun hc => ?_)
    · simp -implicitDefEqProofs (disch := omega) only [go_sem, h0, h3, h6, h7, h8]
      refine callC_at (isIn_ev _ _ _) ?_
      simp -implicitDefEqProofs (disch := omega) only [go_sem, h0, h3, h6, h7, h8]
      refine branch_mk (fun hb => ?_) (fun hb => ?_)
      · simp -implicitDefEqProofs (disch := omega) only [go_sem, h0, h3, h6, h7, h8, Tryd.results67]
        rw [good_not l v (by omega) (by simpa using hb)]
      · simp -implicitDefEqProofs (disch := omega) only [go_sem, h0, h3, h6, h7, h8]
        refine againQ_mk (n - 1) (by omega) ⟨v + 1, by omega, ?_⟩
        simp -implicitDefEqProofs (disch := omega) only [go_sem, h0, h3, h6, h7, h8]
        refine ⟨rfl, by simp, fun i hi => ?_⟩
        by_cases e : i = v
        · subst e; simpa using hb
        · exact hall i (by omega)
    · simp -implicitDefEqProofs (disch := omega) only [go_sem, h0, h3, h6, h7, h8]
      have e : v = l.length := by omega
      subst e
      refine branch_mk (fun hb => ?_) (fun hb => ?_)
      · simp -implicitDefEqProofs (disch := omega) only [go_sem, h0, h3, h6, h7, h8, Tryd.results67]
        rw [good_sum l hall (by omega)]
      · simp -implicitDefEqProofs (disch := omega) only [go_sem, h0, h3, h6, h7, h8, Tryd.results67]
        rw [good_len l (by omega)]
theorem equal_ev (a b : List Int) (ha : a.length ≤ 9223372036854775807) (hb : b.length ≤ 9223372036854775807) : Ev Tryd.prog 74 [SL a, SL b] (B (decide (a = b))) := by
  refine ev_of Tryd.func74 rfl (by kernel_rfl) moN (Nat.le_of_ble_eq_true rfl) ?_
  simp -implicitDefEqProofs (disch := omega) only [go_sem, Tryd.ntmps74]
  refine branch_mk (fun hb => ?_) (fun hb => ?_)
  · simp -implicitDefEqProofs (disch := omega) only [go_sem, Tryd.results74]
    have : ¬ a = b := fun e => by subst e; omega
    simp [this]
  · simp -implicitDefEqProofs (disch := omega) only [go_sem]
    refine loopC_mk (fun n E σ => ∃ v : Nat, v + n = a.length ∧ E 0 = SL a ∧ E 1 = SL b ∧ E 12 = I a.length ∧ E 13 = I v ∧ ∀ i, i < v → gd a i = gd b i) a.length ⟨0, by omega, ?_⟩ ?_
    · simp -implicitDefEqProofs (disch := omega) only [go_sem]
      simp
    · rintro n E σ ⟨v, hv, h0, h1, h12, h5, hall⟩
      simp -implicitDefEqProofs (disch := omega) only [go_sem, h0, h1, h12, h5]
      refine branch_mk (fun hc => ?_) (fun hc => ?_)
      · simp -implicitDefEqProofs (disch := omega) only [go_sem, h0, h1, h12, h5]
        refine branch_mk (fun hd => ?_) (fun hd => ?_)
        · simp -implicitDefEqProofs (disch := omega) only [go_sem, Tryd.results74]
          have : ¬ a = b := fun e => by subst e; simp at hd
          simp [this]
        · simp -implicitDefEqProofs (disch := omega) only [go_sem, h0, h1, h12, h5]
          refine againQ_mk (n - 1) (by omega) ⟨v + 1, by omega, ?_⟩
          simp -implicitDefEqProofs (disch := omega) only [go_sem, h0, h1, h12, h5]
          refine ⟨by simp, fun i hi => ?_⟩
          by_cases e : i = v
          · subst e
            simpa using hd
          · exact hall i (by omega)
      · simp -implicitDefEqProofs (disch := omega) only [go_sem, Tryd.results74]
        have : a = b := gd_ext (by omega) fun i hi => hall i (by omega)
        simp [this]
theorem check_evN (l : List Int) (p : List DebN) (hl : l.length ≤ 9223372036854775807) (hp : p.length ≤ 9223372036854775807) : Ev Tryd.prog 39 [SL l, DL p] (B (checkFN l p)) := by
  refine ev_of Tryd.func39 rfl (by kernel_rfl) moN (Nat.le_of_ble_eq_true rfl) ?_
  simp -implicitDefEqProofs (disch := omega) only [go_sem, Tryd.ntmps39]
  refine callC_at (isGood_ev l hl) ?_
  simp -implicitDefEqProofs (disch := omega) only [go_sem]
  refine branch_mk (fun hb => ?_) (fun hb => ?_)
  · simp -implicitDefEqProofs (disch := omega) only [go_sem]
    refine callC_at (areDebts_ev p _ hp) ?_
    simp -implicitDefEqProofs (disch := omega) only [go_sem]
    refine branch_mk (fun hb2 => ?_) (fun hb2 => ?_)
    · simp -implicitDefEqProofs (disch := omega) only [go_sem]
      refine callC_at (balances_ev p _ (by decide) (by decide) hb2) ?_
      have hlen : (balF p).length = 8 := balN_length p _
      simp -implicitDefEqProofs (disch := omega) only [go_sem]
      refine callC_at (equal_ev (balF p) l (by omega) hl) ?_
      simp -implicitDefEqProofs (disch := omega) only [go_sem, Tryd.results39]
      simp [checkFN, hb, hb2]
    · simp -implicitDefEqProofs (disch := omega) only [go_sem, Tryd.results39]
      simp [checkFN, hb2]
  · simp -implicitDefEqProofs (disch := omega) only [go_sem, Tryd.results39]
    simp [checkFN, hb]
end Go.Proofs.YtgbcfpcjljhijaaDoor
set_option maxRecDepth 100000
namespace Go.Proofs.YtgbcfpcjljhijaaDoor
open Go.Vai Go Go.Proofs
open Nat (reduceEqDiff reduceMul reduceAdd reduceDiv reduceLeDiff)
open Int (reduceToNat reduceNe reduceEq reduceLT reduceLE)
theorem clone_evN (l : List Int) (h0 : 0 < l.length) (hl : l.length ≤ 1000000) : Ev Tryd.prog 68 [SL l] (.new 3 1 (l.map I)) := by
  refine ev_of Tryd.func68 rfl (by kernel_rfl) moN (Nat.le_of_ble_eq_true rfl) ?_
  simp -implicitDefEqProofs (disch := omega) only [go_sem, Tryd.ntmps68, Tryd.results68]
end Go.Proofs.YtgbcfpcjljhijaaDoor
set_option maxRecDepth 100000
namespace Go.Proofs.YtgbcfpcjljhijaaDoor
open Go.Vai Go Go.Proofs
open Nat (reduceEqDiff reduceMul reduceAdd reduceDiv reduceLeDiff)
open Int (reduceToNat reduceNe reduceEq reduceLT reduceLE)
theorem sel_ev (l : List Int) (s : Nat) (sg : Int) (c : Nat) (hl : l.length = 8) (hs : s < 256) (hsg : sg = 1 ∨ sg = -1) (hc : c < 8) (hr : ∀ i, i < 8 → -1000000000000 ≤ gd l i ∧ gd l i ≤ 1000000000000) :
    Ev Tryd.prog 71 [I c, .pt (I s) 0, .pt (I sg) 0, .pt (SL l) 0] (B (selB l s sg c)) := by
  have hw : IntKind.i64.wrap (sg * gd l c) = sg * gd l c := by
    have := hr c hc
    rcases hsg with rfl | rfl
    · exact wrap64_of (by omega)
    · exact wrap64_of (by omega)
  have e1 := bit_test (s := s) (c := c) (by omega) (by omega)
  refine ev_of Tryd.func71 rfl (by kernel_rfl) moN (Nat.le_of_ble_eq_true rfl) ?_
  simp -implicitDefEqProofs (disch := omega) only [go_sem, Tryd.ntmps71]
  refine branch_mk (fun hb => ?_) (fun hb => ?_)
  · simp -implicitDefEqProofs (disch := omega) only [go_sem, hl, hw, Tryd.results71]
    rw [selB, e1.1 hb]; simp
  · simp -implicitDefEqProofs (disch := omega) only [go_sem, hl, Tryd.results71]
    have hb : s.testBit c = false := by
      cases h : s.testBit c with
      | false => rfl
      | true => exact absurd (e1.2 h) hb
    rw [selB, hb]; simp
theorem indexF_ev (l : List Int) (s : Nat) (sg : Int) (hl : l.length = 8) (hs : s < 256) (hsg : sg = 1 ∨ sg = -1) (hr : ∀ i, i < 8 → -1000000000000 ≤ gd l i ∧ gd l i ≤ 1000000000000) :
    Ev Tryd.prog 70 [SL [0, 1, 2, 3, 4, 5, 6, 7], .clo 71 [.pt (I s) 0, .pt (I sg) 0, .pt (SL l) 0]] (I (selF l s sg 0 8)) := by
  refine ev_of Tryd.func70 rfl (by kernel_rfl) moN (Nat.le_of_ble_eq_true rfl) ?_
  have hg : ∀ v : Nat, v < 8 → gd [0, 1, 2, 3, 4, 5, 6, 7] v = (v : Int) := fun v hv => by
    have : v = 0 ∨ v = 1 ∨ v = 2 ∨ v = 3 ∨ v = 4 ∨ v = 5 ∨ v = 6 ∨ v = 7 := by omega
    rcases this with rfl | rfl | rfl | rfl | rfl | rfl | rfl | rfl <;> rfl
  have hq : ([0, 1, 2, 3, 4, 5, 6, 7] : List Int).length = 8 := rfl
  generalize ([0, 1, 2, 3, 4, 5, 6, 7] : List Int) = q at hg hq
  generalize hG : selF l s sg 0 8 = G
  simp -implicitDefEqProofs (disch := omega) only [go_sem, Tryd.ntmps70]
  refine loopC_mk (fun n E σ => ∃ v : Nat, v + n = 8 ∧ E 0 = SL q ∧ E 1 = .clo 71 [.pt (I s) 0, .pt (I sg) 0, .pt (SL l) 0] ∧ E 7 = I q.length ∧ E 8 = I v ∧ G = selF l s sg v n) 8 ⟨0, by omega, ?_⟩ ?_
  · simp -implicitDefEqProofs (disch := omega) only [go_sem]
    exact ⟨rfl, hG.symm⟩
  · rintro n E σ ⟨v, hv, h0, h1, h7, h8, hx⟩
    simp -implicitDefEqProofs (disch := omega) only [go_sem, h0, h1, h7, h8, hq]
    refine branch_mk (fun hc => ?_) (fun hc => ?_)
    · have hgv := hg v (by omega)
      obtain ⟨n, rfl⟩ : ∃ m, n = m + 1 := ⟨n - 1, by omega⟩
      rw [selF] at hx
      simp -implicitDefEqProofs (disch := omega) only [go_sem, h0, h1, h7, h8, hq, hgv]
      refine callC_at (sel_ev l s sg v hl hs hsg (by omega) hr) ?_
      simp -implicitDefEqProofs (disch := omega) only [go_sem, h0, h1, h7, h8, hq, hgv]
      refine branch_mk (fun hb => ?_) (fun hb => ?_)
      · rw [if_pos hb] at hx
        simp -implicitDefEqProofs (disch := omega) only [go_sem, h0, h1, h7, h8, hq, hgv, Tryd.results70]
        rw [hx]
      · rw [if_neg hb] at hx
        simp -implicitDefEqProofs (disch := omega) only [go_sem, h0, h1, h7, h8, hq, hgv]
        refine againQ_mk n (by omega) ⟨v + 1, by omega, ?_⟩
        simp -implicitDefEqProofs (disch := omega) only [go_sem, h0, h1, h7, h8, hq, hgv]
        exact ⟨by simp, hx⟩
    · have : n = 0 := by omega
      subst this
      simp -implicitDefEqProofs (disch := omega) only [go_sem, h0, h1, h7, h8, hq, Tryd.results70]
      rw [hx, selF]
theorem next_ev (l : List Int) (s : Nat) (sg : Int) (hl : l.length = 8) (hs : s < 256) (hsg : sg = 1 ∨ sg = -1) (hr : ∀ i, i < 8 → -1000000000000 ≤ gd l i ∧ gd l i ≤ 1000000000000) :
    Ev Tryd.prog 69 [I s, I sg, .pt (SL l) 0] (I (selF l s sg 0 8)) := by
  refine ev_of Tryd.func69 rfl (by kernel_rfl) moN (Nat.le_of_ble_eq_true rfl) ?_
  simp -implicitDefEqProofs (disch := omega) only [go_sem, Tryd.ntmps69]
  refine callC_at (indexF_ev l s sg hl hs hsg hr) ?_
  simp -implicitDefEqProofs (disch := omega) only [go_sem, Tryd.results69]
end Go.Proofs.YtgbcfpcjljhijaaDoor
set_option maxRecDepth 100000
namespace Go.Proofs.YtgbcfpcjljhijaaDoor
open Go.Vai Go Go.Proofs
open Nat (reduceEqDiff reduceMul reduceAdd reduceDiv reduceLeDiff)
open Int (reduceToNat reduceNe reduceEq reduceLT reduceLE)
abbrev YS (s : Nat) : List AV := [I (s : Int)]
@[go_sem] theorem namesL_sets (p : Nat → Bool) (l : List Nat) : AV.namesL p ((l.map YS).map .tup) = false := by
  rw [List.map_map]; exact namesL_map p l _ fun _ => rfl
theorem sets_ev (all c : Nat) : Ev Tryd.prog 109 [I all, I c] (.clo 118 [.nptr 3 1 [I all], .nptr 3 1 [I c]]) := by
  refine ev_of Tryd.func109 rfl (by kernel_rfl) moN (Nat.le_of_ble_eq_true rfl) ?_
  simp -implicitDefEqProofs (disch := omega) only [go_sem, Tryd.ntmps109, Tryd.results109]
theorem sets_sok (all c a b : Nat) (σ : Store) (h8 : all < 256) (hc : c < 8) (ha : σ a = some ⟨3, 1, [I all]⟩) (hb : σ b = some ⟨3, 1, [I c]⟩) (hA : a / 16 < 15597568 ∨ 9012896 ≤ a / 16) (hB : b / 16 < 15597568 ∨ 9012896 ≤ b / 16) :
    SOK Tryd.prog 118 [.ptr a 1 0 0, .ptr b 1 0 0] σ ((setsF all c).map YS) := by
  have e1 : IntKind.i64.wrap (1 * 2 ^ min c 64) = ((2 ^ c : Nat) : Int) := shl_min (by omega)
  have hp : 2 ^ c < 256 := Nat.lt_of_lt_of_le (Nat.pow_lt_pow_right (by omega) hc) (Nat.le_refl _)
  have e2 : bitsI .andNot .i64 (all : Int) ((2 ^ c : Nat) : Int) = ((lessN all (2 ^ c) : Nat) : Int) := andNot_nat (by omega) (by omega)
  have hl : lessN all (2 ^ c) < 256 := Nat.lt_of_le_of_lt (lessN_le _ _) h8
  unfold setsF
  generalize hR : lessN all (2 ^ c) = R at *
  refine sok_of Tryd.func118 rfl (by kernel_rfl) moN (Nat.le_of_ble_eq_true rfl) ?_ rfl fun l => ?_
  · exact namesL_sets allB _
  · simp -implicitDefEqProofs (disch := omega) only [go_sem, Tryd.ntmps118, ha, hb, e1, e2]
    refine loopC_mk (fun n E σ => ∃ s : Nat, s < n ∧ s < 256 ∧ E 0 = .yld l ∧ E 2 = .ptr b 1 0 0 ∧ E 4 = I R ∧ E 5 = I s ∧ E 26 = .tup ((((subsN R n s).map (· ||| 2 ^ c)).map YS).map .tup) ∧ σ b = some ⟨3, 1, [I c]⟩) 256 ⟨R, by omega, by omega, ?_⟩ ?_
    · simp -implicitDefEqProofs (disch := omega) only [go_sem, ha, hb]
    · clear ha hb σ
      rintro n E σ ⟨s, hn, hs8, h0, h2, h4, h5, h26, hb⟩
      obtain ⟨m, rfl⟩ : ∃ m, n = m + 1 := ⟨n - 1, by omega⟩
      have e3 : bitsI .or .i64 (s : Int) ((2 ^ c : Nat) : Int) = ((s ||| 2 ^ c : Nat) : Int) := or_nat (by omega) (by omega)
      by_cases h0s : s = 0
      · subst h0s
        rw [subsN, if_pos rfl] at h26
        simp -implicitDefEqProofs (disch := omega) only [go_sem, h0, h2, h4, h5, h26, hb, e1, e3]
        refine ⟨branch_l (by omega) ?_, ?_⟩
        · simp -implicitDefEqProofs (disch := omega) only [go_sem, h0, h2, h4, h5, h26, hb, e1, e3]
          exact .inl trivial
        · exact .inr trivial
      · rw [subsN, if_neg h0s] at h26
        have e4 : bitsI .and .i64 ((s : Int) - 1) (R : Int) = (((s - 1) &&& R : Nat) : Int) := by
          rw [show (s : Int) - 1 = ((s - 1 : Nat) : Int) from by omega]; exact and_nat (by omega) (by omega)
        have hle := @Nat.and_le_left (s - 1) R
        simp -implicitDefEqProofs (disch := omega) only [go_sem, h0, h2, h4, h5, h26, hb, e1, e3, e4]
        refine ⟨branch_r (by omega) ?_, ?_⟩
        · simp -implicitDefEqProofs (disch := omega) only [go_sem, h0, h2, h4, h5, h26, hb, e1, e3, e4]
          refine againQ_mk m (by omega) ⟨(s - 1) &&& R, by omega, by omega, ?_⟩
          simp -implicitDefEqProofs (disch := omega) only [go_sem, h0, h2, h4, h5, h26, hb, e1, e3, e4]
        · exact .inr trivial
end Go.Proofs.YtgbcfpcjljhijaaDoor
set_option maxRecDepth 100000
namespace Go.Proofs.YtgbcfpcjljhijaaDoor
open Go.Vai Go Go.Proofs
open Nat (reduceEqDiff reduceMul reduceAdd reduceDiv reduceLeDiff)
open Int (reduceToNat reduceNe reduceEq reduceLT reduceLE)
theorem undN145 : Tryd.prog.underlying 145 = some (.map 3 33) := by kernel_rfl
theorem undN3 : Tryd.prog.underlying 3 = some (.int .i64) := by kernel_rfl
abbrev LG (S : List Int) (kv : List (Int × AV)) : List (Nat × Blk) := [(153092144, ⟨142, 256, [.agg (S.map I)]⟩), (153092704, ⟨145, 0, kv.map entA⟩)]
abbrev LKG (b S : List Int) (n : Nat) (kv : List (Int × AV)) (all : Nat) : Prop :=
  LOK Tryd.prog 100 (inI [153092144, 153092704]) [.ptr 153092144 256 0 0, .mref 153092704, I all] (stO (LG S kv)) (SL (gI (gF b 256 all))) (stO (LG S (kvF b n kv all)))
theorem groups0 (b S : List Int) (n : Nat) (kv : List (Int × AV)) (hk : KvOK b kv) : LKG b S (n + 1) kv 0 := by
  have hn := namesL_kv hk
  unfold LKG
  rw [kvF, gF, if_pos rfl, if_pos rfl]
  refine lok_sl (e := 3) ?_
  refine lok_of [153092144, 153092704] Tryd.func100 rfl (by kernel_rfl) moN (Nat.le_of_ble_eq_true rfl) rfl (by kernel_rfl) (by kernel_rfl) ?_
  simp -implicitDefEqProofs (disch := omega) only [go_sem, Tryd.ntmps100, hn]
  refine branch_l rfl ?_
  simp -implicitDefEqProofs (disch := omega) only [go_sem, hn, Tryd.results100]
theorem groups1 (b S : List Int) (n : Nat) (kv : List (Int × AV)) (all : Nat) (hk : KvOK b kv) (h0 : all ≠ 0) (hm : (mgetA (all : Int) kv).isSome = true) : LKG b S (n + 1) kv all := by
  have hn := namesL_kv hk
  unfold LKG
  rw [kvF, if_neg h0, if_pos hm]
  refine lok_of [153092144, 153092704] Tryd.func100 rfl (by kernel_rfl) moN (Nat.le_of_ble_eq_true rfl) rfl (by kernel_rfl) (by kernel_rfl) ?_
  simp -implicitDefEqProofs (disch := omega) only [go_sem, Tryd.ntmps100, hn]
  refine branch_r (by omega) ?_
  simp -implicitDefEqProofs (disch := omega) only [go_sem, hn]
  refine lookup_mk (kt := 3) (et := 33) (id := 153092704) (e := 145) (l := kv) (n := all) ?_ ?_ ?_ undN145 undN3 tz_33 (fun v hv => ?_) (fun hv => ?_)
  · simp -implicitDefEqProofs (disch := omega) only [go_sem]
  · simp -implicitDefEqProofs (disch := omega) only [go_sem]
  · simp -implicitDefEqProofs (disch := omega) only [go_sem, hn]
  · rw [kv_get hk hv]
    simp -implicitDefEqProofs (disch := omega) only [go_sem, hn, Tryd.results100]
  · rw [hv] at hm; cases hm
set_option maxHeartbeats 4000000 in
theorem groups_lok (b S : List Int) (hS : S.length = 256) (hat : ∀ s, s < 256 → gd S s = sumM b s) : ∀ (n all : Nat) (kv : List (Int × AV)), all < n → all < 256 → KvOK b kv → LKG b S n kv all := by
  intro n
  induction n with
  | zero => intro all kv h; omega
  | succ n ih =>
    intro all kv hn h8 hk
    by_cases h0 : all = 0
    · subst h0; exact groups0 b S n kv hk
    cases hm : mgetA (all : Int) kv with
    | some v => exact groups1 b S n kv all hk h0 (by rw [hm]; rfl)
    | none =>
      have hnm := namesL_kv hk
      obtain ⟨hl1, hl2, hl3⟩ := lowF_spec h8 h0
      have hG : gF b 256 all = (setsF all (lowF all)).foldl (bestF b (gF b 256) all) [] := by
        rw [gF, if_neg h0]
        refine foldl_congr _ _ fun best s hs => ?_
        have hlt := lessN_lt hl1 ((setsF_mem hl1 h8 s).1 hs).2
        unfold bestF
        rw [gF_fuel b 255 256 (lessN all s) (by omega) (by omega) (by omega)]
      have hK : kvF b (n + 1) kv all = mputA ((setsF all (lowF all)).foldl (fun kv s => if sumM b s = 0 then kvF b n kv (lessN all s) else kv) kv) all (SL (gI (gF b 256 all))) := by
        rw [kvF, if_neg h0, hm]; rfl
      unfold LKG
      rw [hK, hG]
      refine lok_of [153092144, 153092704] Tryd.func100 rfl (by kernel_rfl) moN (Nat.le_of_ble_eq_true rfl) rfl (by kernel_rfl) (by kernel_rfl) ?_
      simp -implicitDefEqProofs (disch := omega) only [go_sem, Tryd.ntmps100, hnm]
      refine branch_r (by omega) ?_
      simp -implicitDefEqProofs (disch := omega) only [go_sem, hnm]
      refine lookup_mk (kt := 3) (et := 33) (id := 153092704) (e := 145) (l := kv) (n := all) ?_ ?_ ?_ undN145 undN3 tz_33 (fun v hv => ?_) (fun hv => ?_)
      · simp -implicitDefEqProofs (disch := omega) only [go_sem]
      · simp -implicitDefEqProofs (disch := omega) only [go_sem]
      · simp -implicitDefEqProofs (disch := omega) only [go_sem, hnm]
      · rw [hm] at hv; cases hv
      · simp -implicitDefEqProofs (disch := omega) only [go_sem, hnm]
        refine loopC_mk (fun k E σ => ∃ c : Nat, c + k = 8 ∧ lowF all = lowN all c k ∧ E 3 = .ptr 211812400 1 0 0 ∧ E 4 = .ptr 211812416 1 0 0 ∧ E 5 = .ptr 211812432 1 0 0 ∧ E 9 = I c ∧
          σ 211812400 = some ⟨144, 1, [.ptr 153092144 256 0 0]⟩ ∧ σ 211812416 = some ⟨145, 1, [.mref 153092704]⟩ ∧ σ 211812432 = some ⟨3, 1, [I all]⟩ ∧ σ 153092144 = some ⟨142, 256, [.agg (S.map I)]⟩ ∧ σ 153092704 = some ⟨145, 0, kv.map entA⟩) 8 ⟨0, rfl, rfl, ?_⟩ ?_
        · simp -implicitDefEqProofs (disch := omega) only [go_sem, hnm]
          rfl
        · rintro k E σ ⟨c, hc, hlow, h3, h4, h5, h9, m3, m4, m5, mS, mM⟩
          have hb0 := bit_test0 (s := all) (c := c) (by omega) (by omega)
          simp -implicitDefEqProofs (disch := omega) only [go_sem, h3, h4, h5, h9, m3, m4, m5, mS, mM, hnm]
          refine branch_mk (fun hb => ?_) (fun hb => ?_)
          · simp -implicitDefEqProofs (disch := omega) only [go_sem, h3, h4, h5, h9, m3, m4, m5, mS, mM, hnm]
            have hb := hb0.1 hb
            obtain ⟨k, rfl⟩ : ∃ m, k = m + 1 := ⟨k - 1, by
              have : k ≠ 0 := fun e => by subst e; rw [lowN] at hlow; omega
              omega⟩
            rw [lowN, hb] at hlow
            refine againQ_mk k (by omega) ⟨c + 1, by omega, by simpa using hlow, ?_⟩
            simp -implicitDefEqProofs (disch := omega) only [go_sem, h3, h4, h5, h9, m3, m4, m5, mS, mM, hnm]
            simp
          · have hb : all.testBit c = true := by
              cases h : all.testBit c with
              | true => rfl
              | false => exact absurd (hb0.2 h) hb
            have hcl : lowF all = c := by
              cases k with
              | zero => rw [lowN] at hlow; omega
              | succ k => rw [lowN, if_pos hb] at hlow; exact hlow
            rw [hcl] at hl1 hl2 hl3 hG hK
            rw [hcl]
            have hmem := setsF_mem hl1 h8
            simp -implicitDefEqProofs (disch := omega) only [go_sem, h3, h4, h5, h9, m3, m4, m5, mS, mM, hnm]
            refine callC_at (sets_ev all c) ?_
            simp -implicitDefEqProofs (disch := omega) only [go_sem, h3, h4, h5, h9, m3, m4, m5, mS, mM, hnm]
            refine awpC_range ?_
            refine range_mkL [211812864, 211812865] [153092144, 153092704, 211812400, 211812416, 211812432, 211812512] 13238372 ((setsF all c).map YS)
              (fun xs σ => ∃ (d r : List Nat) (x : Nat) (kv' : List (Int × AV)), setsF all c = d ++ r ∧ xs = r.map YS ∧ (x = 211812513 ∨ x = 211814800) ∧ KvOK b kv' ∧ kv' = d.foldl (fun kv s => if sumM b s = 0 then kvF b n kv (lessN all s) else kv) kv ∧
                σ 211812400 = some ⟨144, 1, [.ptr 153092144 256 0 0]⟩ ∧ σ 211812416 = some ⟨145, 1, [.mref 153092704]⟩ ∧ σ 211812432 = some ⟨3, 1, [I all]⟩ ∧ σ 153092144 = some ⟨142, 256, [.agg (S.map I)]⟩ ∧ σ 153092704 = some ⟨145, 0, kv'.map entA⟩ ∧
                σ 211812512 = some ⟨33, 1, [.own x 1 0 (d.foldl (bestF b (gF b 256) all) []).length]⟩ ∧ σ x = some ⟨3, 1, (gI (d.foldl (bestF b (gF b 256) all) [])).map I⟩)
              (g := 118) (caps := [.ptr 211812864 1 0 0, .ptr 211812865 1 0 0]) ?_ ?_ ?_ ?_ ?_ ?_ ?_ ?_ ?_
            · simp -implicitDefEqProofs (disch := omega) only [go_sem]
            · refine sets_sok all c _ _ _ h8 hl2 ?_ ?_ (by decide) (by decide) <;> simp -implicitDefEqProofs (disch := omega) only [go_sem]
            · intro x hx
              obtain ⟨y, _, rfl⟩ := List.mem_map.1 hx
              rfl
            · simp -implicitDefEqProofs (disch := omega) only [go_sem]
            · simp -implicitDefEqProofs (disch := omega) only [go_sem]
            · refine ⟨[], _, 211812513, kv, rfl, rfl, .inl rfl, hk, rfl, ?_⟩
              simp -implicitDefEqProofs (disch := omega) only [go_sem, h3, h4, h5, h9, m3, m4, m5, mS, mM, hnm]
              exact ⟨rfl, rfl⟩
            · rintro E0 hE0 y rest σ' ⟨d, r, x, kv', hst, hxs, hx, hk', hkv, n3, n4, n5, nS, nM, n10, nx⟩
              have e3 : E0 3 = .ptr 211812400 1 0 0 := by rw [hE0]; simp -implicitDefEqProofs (disch := omega) only [go_sem, h3]
              have e4 : E0 4 = .ptr 211812416 1 0 0 := by rw [hE0]; simp -implicitDefEqProofs (disch := omega) only [go_sem, h4]
              have e5 : E0 5 = .ptr 211812432 1 0 0 := by rw [hE0]; simp -implicitDefEqProofs (disch := omega) only [go_sem, h5]
              have e10 : E0 10 = .ptr 211812512 1 0 0 := by rw [hE0]; simp -implicitDefEqProofs (disch := omega) only [go_sem]
              clear hE0 h3 h4 h5 h9 m3 m4 m5 mS mM hnm
              obtain ⟨s, r', rfl, rfl, rfl⟩ : ∃ s r', r = s :: r' ∧ y = YS s ∧ rest = r'.map YS := by
                cases r with
                | nil => cases hxs
                | cons s r' => simp only [List.map_cons, List.cons.injEq] at hxs; exact ⟨s, r', rfl, hxs.1, hxs.2⟩
              have hin := (hmem s).1 (by rw [hst]; simp)
              have hs8 : s < 256 := Nat.lt_of_le_of_lt hin.1.le h8
              have hlt := lessN_lt hl1 hin.2
              have hat' := hat s hs8
              have hnm := namesL_kv hk'
              have hml : (d.foldl (bestF b (gF b 256) all) []).length ≤ 257 := by
                have : ∀ (l : List Nat) (best : List Nat), best.length ≤ 257 → (l.foldl (bestF b (gF b 256) all) best).length ≤ 257 := fun l => by
                  induction l with
                  | nil => intro best h; exact h
                  | cons s l ih =>
                    intro best h
                    rw [List.foldl_cons]
                    refine ih _ ?_
                    have := gF_length b 256 (lessN all s)
                    unfold bestF
                    split
                    · split
                      · rw [List.length_cons]; omega
                      · exact h
                    · exact h
                exact this d [] (by simp)
              have hbest : (d ++ [s]).foldl (bestF b (gF b 256) all) [] = bestF b (gF b 256) all (d.foldl (bestF b (gF b 256) all) []) s := by rw [List.foldl_append]; rfl
              have hkv2 : (d ++ [s]).foldl (fun kv s => if sumM b s = 0 then kvF b n kv (lessN all s) else kv) kv = if sumM b s = 0 then kvF b n kv' (lessN all s) else kv' := by rw [List.foldl_append, ← hkv]; rfl
              generalize d.foldl (bestF b (gF b 256) all) [] = m at *
              simp -implicitDefEqProofs (disch := omega) only [go_sem, e3, e4, e5, e10, n3, n4, n5, nS, nM, n10, hS, hat']
              refine branch_mk (fun hz => ?_) (fun hz => ?_)
              · simp -implicitDefEqProofs (disch := omega) only [go_sem, e3, e4, e5, e10, n3, n4, n5, nS, nM, n10, hS, hat']
                rw [if_neg hz] at hkv2
                rw [bestF, if_neg hz] at hbest
                refine ⟨inL [], fun _ _ => rfl, d ++ [s], r', x, kv', by rw [hst]; simp, rfl, hx, hk', hkv2.symm, ?_⟩
                simp -implicitDefEqProofs (disch := omega) only [go_sem, e3, e4, e5, e10, n3, n4, n5, nS, nM, n10, nx, hS, hat', hnm, hbest]
              · have hz : sumM b s = 0 := by omega
                rw [if_pos hz] at hkv2
                have e6 : bitsI .andNot .i64 (all : Int) (s : Int) = ((lessN all s : Nat) : Int) := andNot_nat (by omega) (by omega)
                have hL : LOK Tryd.prog 100 (inI [153092144, 153092704]) ([.ptr 153092144 256 0 0, .mref 153092704, I (lessN all s : Nat)] ++ []) (stO (LG S kv')) (SL (gI (gF b 256 (lessN all s)))) (stO (LG S (kvF b n kv' (lessN all s)))) := ih (lessN all s) kv' (by omega) (by omega) hk'
                have hk2 := kvF_ok n kv' (lessN all s) (by omega) hk'
                have hnm2 := namesL_kv hk2
                have hgl := gF_length b 256 (lessN all s)
                generalize kvF b n kv' (lessN all s) = kv2 at *
                rw [bestF, if_pos hz] at hbest
                generalize gF b 256 (lessN all s) = g at *
                simp -implicitDefEqProofs (disch := omega) only [go_sem, e3, e4, e5, e10, n3, n4, n5, nS, nM, n10, hS, hat', e6, hnm]
                refine callC_sem rfl ?_
                have hxx := hx
                rcases hx with rfl | rfl
                all_goals
                  refine lent_mk [153092144, 153092704] hL ?_ ?_ ?_ ?_ ?_ ?_ ?_ (hsp := fun id h _ => List.contains_iff_mem.2 h)
                  · simp -implicitDefEqProofs (disch := omega) only [go_sem]
                  · simp -implicitDefEqProofs (disch := omega) only [go_sem, e6]
                  · simp -implicitDefEqProofs (disch := omega) only [go_sem, nS, nM, hnm]
                  · simp -implicitDefEqProofs (disch := omega) only [go_sem]
                  · simp -implicitDefEqProofs (disch := omega) only [go_sem, hnm]
                  · simp -implicitDefEqProofs (disch := omega) only [go_sem, hnm2]
                  · simp -implicitDefEqProofs (disch := omega) only [go_sem, e3, e4, e5, e10, n3, n4, n5, nS, nM, n10, nx, hnm2]
                    refine branch_mk (fun hlg => ?_) (fun hlg => ?_)
                    · rw [if_pos (by omega)] at hbest
                      simp (maxSteps := 4000000) -implicitDefEqProofs (disch := omega) only [go_sem, e3, e4, e5, e10, n3, n4, n5, nS, nM, n10, nx, hnm2]
                      refine ⟨inL [], fun _ _ => rfl, d ++ [s], r', 211814800, kv2, by rw [hst]; simp, rfl, .inr rfl, hk2, hkv2.symm, ?_⟩
                      simp (maxSteps := 4000000) -implicitDefEqProofs (disch := omega) only [go_sem, e3, e4, e5, e10, n3, n4, n5, nS, nM, n10, nx, hnm2, hbest]
                      rw [Nat.add_comm]
                    · rw [if_neg (by omega)] at hbest
                      simp -implicitDefEqProofs (disch := omega) only [go_sem, e3, e4, e5, e10, n3, n4, n5, nS, nM, n10, nx, hnm2]
                      refine ⟨inL [], fun _ _ => rfl, d ++ [s], r', _, kv2, by rw [hst]; simp, rfl, hxx, hk2, hkv2.symm, ?_⟩
                      simp -implicitDefEqProofs (disch := omega) only [go_sem, e3, e4, e5, e10, n3, n4, n5, nS, nM, n10, nx, hnm2, hbest]
            · rintro E0 hE0 σ' ⟨d, r, x, kv', hst, hxs, hx, hk', hkv, n3, n4, n5, nS, nM, n10, nx⟩
              have e4 : E0 4 = .ptr 211812416 1 0 0 := by rw [hE0]; simp -implicitDefEqProofs (disch := omega) only [go_sem, h4]
              have e5 : E0 5 = .ptr 211812432 1 0 0 := by rw [hE0]; simp -implicitDefEqProofs (disch := omega) only [go_sem, h5]
              have e10 : E0 10 = .ptr 211812512 1 0 0 := by rw [hE0]; simp -implicitDefEqProofs (disch := omega) only [go_sem]
              clear hE0 h3 h4 h5 h9 m3 m4 m5 mS mM hnm
              have hr : r = [] := by simpa using hxs.symm
              subst hr
              rw [List.append_nil] at hst
              rw [← hst] at hkv n10 nx
              rw [← hG] at n10 nx
              rw [← hkv]
              have hnm := namesL_kv hk'
              have hnm2 := namesL_kv (kv_put hk' h8)
              rw [← hG]
              generalize gF b 256 all = g at *
              simp -implicitDefEqProofs (disch := omega) only [go_sem, e4, e5, e10, n4, n5, nS, nM, n10, nx]
              rcases hx with rfl | rfl
              all_goals
                refine freeze_op [211812513, 211814800] ?_
                simp -implicitDefEqProofs (disch := omega) only [go_sem, e4, e5, e10, n4, n5, nS, nM, n10, nx, hnm]
                refine mapUpdate_mk (kt := 3) (et := 33) (id := 153092704) (e := 145) (l := kv') (n := all) ?_ ?_ ?_ undN145 undN3 ?_
                · simp -implicitDefEqProofs (disch := omega) only [go_sem, e4, e5, e10, n4, n5, nS, nM, n10, nx, hnm]
                · simp -implicitDefEqProofs (disch := omega) only [go_sem, e4, e5, e10, n4, n5, nS, nM, n10, nx, hnm]
                · simp -implicitDefEqProofs (disch := omega) only [go_sem, e4, e5, e10, n4, n5, nS, nM, n10, nx, hnm]
                · simp -implicitDefEqProofs (disch := omega) only [go_sem, e4, e5, e10, n4, n5, nS, nM, n10, nx, hnm, hnm2, Tryd.results100]
            · intro id h
              have := inI_mem h
              simp only [List.mem_cons, List.not_mem_nil, or_false] at this
              rcases this with rfl | rfl <;> rfl
end Go.Proofs.YtgbcfpcjljhijaaDoor
set_option maxRecDepth 100000
namespace Go.Proofs.YtgbcfpcjljhijaaDoor
open Go.Vai Go Go.Proofs
open Nat (reduceEqDiff reduceMul reduceAdd reduceDiv reduceLeDiff)
open Int (reduceToNat reduceNe reduceEq reduceLT reduceLE)
theorem sumK_low (b : List Int) {s c : Nat} (h : s < 2 ^ c) : sumK b s (c + 1) = sumK b s c := by
  rw [sumK, Nat.testBit_lt_two_pow h]; simp
theorem or_two {s c : Nat} (h : s < 2 ^ c) : s ||| 2 ^ c = s + 2 ^ c := by
  have := Nat.two_pow_add_eq_or_of_lt h 1
  rw [Nat.mul_one] at this
  rw [Nat.or_comm, ← this, Nat.add_comm]
theorem sumK_or (b : List Int) {s c : Nat} (h : s < 2 ^ c) : ∀ i, i ≤ c → sumK b (s + 2 ^ c) i = sumK b s i
  | 0, _ => rfl
  | i + 1, hi => by
    rw [sumK, sumK, sumK_or b h i (by omega), ← or_two h, Nat.testBit_or, Nat.testBit_two_pow]
    have : decide (c = i) = false := by simp; omega
    rw [this, Bool.or_false]
theorem sumK_new (b : List Int) {s c : Nat} (h : s < 2 ^ c) : sumK b (s + 2 ^ c) (c + 1) = sumK b s c + gd b c := by
  rw [sumK, sumK_or b h c (Nat.le_refl _), ← or_two h, Nat.testBit_or, Nat.testBit_two_pow]
  simp
theorem sumK_le (b : List Int) (h : ∀ i, i < 8 → -1000000000000 ≤ gd b i ∧ gd b i ≤ 1000000000000) (s : Nat) : ∀ i : Nat, i ≤ 8 → -(1000000000000 * (i : Int)) ≤ sumK b s i ∧ sumK b s i ≤ 1000000000000 * (i : Int)
  | 0, _ => by simp [sumK]
  | i + 1, hi => by
    have ih := sumK_le b h s i (by omega)
    have := h i (by omega)
    rw [sumK]
    split <;> omega
@[go_sem] theorem tzA_142 : tzA Tryd.prog 142 = some (.agg ((List.replicate 256 (0 : Int)).map I)) := by kernel_rfl
theorem grouped_ev (b : List Int) (hb : goodF b = true) : Ev Tryd.prog 72 [SL b] (SL (gI (gF b 256 (usedF b)))) := by
  obtain ⟨g1, g2, g3⟩ := (goodF_iff b).1 hb
  have hr : ∀ i, i < 8 → -1000000000000 ≤ gd b i ∧ gd b i ≤ 1000000000000 := fun i hi => (inF_iff _ _ _).1 (g1 i (by omega))
  refine ev_of Tryd.func72 rfl (by kernel_rfl) moN (Nat.le_of_ble_eq_true rfl) ?_
  generalize hz : List.replicate 256 (0 : Int) = Z
  have hZ : Z.length = 256 := by rw [← hz]; exact List.length_replicate
  have hZ0 : gd Z 0 = 0 := by rw [← hz]; rfl
  simp -implicitDefEqProofs (disch := omega) only [go_sem, Tryd.ntmps72, hz, hZ]
  refine loopC_mk (fun n E σ => ∃ (c : Nat) (S : List Int), c + n = 8 ∧ S.length = 256 ∧ (∀ s, s < 2 ^ c → gd S s = sumK b s c) ∧ E 0 = SL b ∧ E 3 = .ptr 153092144 256 0 0 ∧ E 4 = I (usedK b c) ∧ E 8 = SL b ∧ E 9 = I 8 ∧ E 10 = I c ∧
    σ 153092144 = some ⟨142, 256, [.agg (S.map I)]⟩) 8 ⟨0, Z, rfl, hZ, ?_, ?_⟩ ?_
  · intro s hs
    have : s = 0 := by simpa using hs
    subst this; rw [hZ0, sumK]
  · simp -implicitDefEqProofs (disch := omega) only [go_sem, g2]
    exact ⟨rfl, rfl, rfl⟩
  · rintro n E σ ⟨c, S, hc, hS, hall, h0, h3, h4, h8, h9, h10, mS⟩
    simp -implicitDefEqProofs (disch := omega) only [go_sem, h0, h3, h4, h8, h9, h10, mS]
    refine branch_mk (fun hlt => ?_) (fun hlt => ?_)
    · have hc8 : c < 8 := by omega
      have e1 : IntKind.i64.wrap (1 * 2 ^ min c 64) = ((2 ^ c : Nat) : Int) := shl_min (by omega)
      have hp : 2 ^ c ≤ 128 := Nat.pow_le_pow_right (n := 2) (by omega) (show c ≤ 7 by omega)
      have hu := usedK_lt b c
      have hbc := hr c hc8
      simp -implicitDefEqProofs (disch := omega) only [go_sem, h0, h3, h4, h8, h9, h10, mS, g2, e1]
      refine loopC_mk (fun k E σ => ∃ (v : Nat) (S : List Int), v + k = 2 ^ c ∧ S.length = 256 ∧ (∀ s, s < 2 ^ c → gd S s = sumK b s c) ∧ (∀ s, s < v → gd S (s + 2 ^ c) = sumK b s c + gd b c) ∧ E 0 = SL b ∧ E 3 = .ptr 153092144 256 0 0 ∧ E 4 = I (usedK b c) ∧
        E 5 = I c ∧ E 6 = I (gd b c) ∧ E 8 = SL b ∧ E 9 = I 8 ∧ E 10 = I c ∧ E 16 = I (2 ^ c : Nat) ∧ E 17 = I v ∧ σ 153092144 = some ⟨142, 256, [.agg (S.map I)]⟩) (2 ^ c) ⟨0, S, by omega, hS, hall, fun s hs => by omega, ?_⟩ ?_
      · simp -implicitDefEqProofs (disch := omega) only [go_sem, h0, h3, h4, h8, h9, h10, mS, g2, e1]
        rfl
      · clear h0 h3 h4 h8 h9 h10 mS hall hS S E σ
        rintro k E σ ⟨v, S, hv, hS, hall, hnew, h0, h3, h4, h5, h6, h8, h9, h10, h16, h17, mS⟩
        simp -implicitDefEqProofs (disch := omega) only [go_sem, h0, h3, h4, h5, h6, h8, h9, h10, h16, h17, mS]
        refine branch_mk (fun hlv => ?_) (fun hlv => ?_)
        · have hv2 : v < 2 ^ c := by omega
          have e3 : bitsI .or .i64 (v : Int) ((2 ^ c : Nat) : Int) = ((v + 2 ^ c : Nat) : Int) := by rw [or_nat (by omega) (by omega), or_two hv2]
          have e4 := hall v hv2
          have hsl := sumK_le b hr v c (by omega)
          have hw : IntKind.i64.wrap (sumK b v c + gd b c) = sumK b v c + gd b c := wrap64_of (by omega)
          simp -implicitDefEqProofs (disch := omega) only [go_sem, h0, h3, h4, h5, h6, h8, h9, h10, h16, h17, mS, hS, e1, e3, e4, hw]
          refine againQ_mk (k - 1) (by omega) ⟨v + 1, S.set (v + 2 ^ c) (sumK b v c + gd b c), by omega, by simpa using hS, fun s hs => ?_, fun s hs => ?_, ?_⟩
          · rw [gd_set _ _ _ _ (by omega), if_neg (by omega)]; exact hall s hs
          · rw [gd_set _ _ _ _ (by omega)]
            by_cases e : s = v
            · subst e; rw [if_pos rfl]
            · rw [if_neg (by omega)]; exact hnew s (by omega)
          · simp -implicitDefEqProofs (disch := omega) only [go_sem, h0, h3, h4, h5, h6, h8, h9, h10, h16, h17, mS, hS]
            simp
        · have hv2 : v = 2 ^ c := by omega
          have hfin : ∀ s, s < 2 ^ (c + 1) → gd S s = sumK b s (c + 1) := fun s hs => by
            by_cases e : s < 2 ^ c
            · rw [sumK_low b e]; exact hall s e
            · obtain ⟨t, rfl⟩ : ∃ t, s = t + 2 ^ c := ⟨s - 2 ^ c, by omega⟩
              rw [Nat.pow_succ] at hs
              rw [sumK_new b (by omega)]; exact hnew t (by omega)
          simp -implicitDefEqProofs (disch := omega) only [go_sem, h0, h3, h4, h5, h6, h8, h9, h10, h16, h17, mS]
          refine branch_mk (fun hne => ?_) (fun hne => ?_)
          · have e5 : bitsI .or .i64 (usedK b c : Int) ((2 ^ c : Nat) : Int) = ((usedK b c ||| 2 ^ c : Nat) : Int) := or_nat (by omega) (by omega)
            have e6 : usedK b (c + 1) = usedK b c ||| 2 ^ c := by rw [usedK, if_neg (by omega)]
            simp -implicitDefEqProofs (disch := omega) only [go_sem, h0, h3, h4, h5, h6, h8, h9, h10, h16, h17, mS, e1, e5]
            refine againQ_mk (n - 1) (by omega) ⟨c + 1, S, by omega, hS, hfin, ?_⟩
            simp -implicitDefEqProofs (disch := omega) only [go_sem, h0, h3, h4, h5, h6, h8, h9, h10, h16, h17, mS, e6]
            simp
          · have e6 : usedK b (c + 1) = usedK b c := by rw [usedK, if_pos (by omega)]
            simp -implicitDefEqProofs (disch := omega) only [go_sem, h0, h3, h4, h5, h6, h8, h9, h10, h16, h17, mS]
            refine againQ_mk (n - 1) (by omega) ⟨c + 1, S, by omega, hS, hfin, ?_⟩
            simp -implicitDefEqProofs (disch := omega) only [go_sem, h0, h3, h4, h5, h6, h8, h9, h10, h16, h17, mS, e6]
            simp
    · have : c = 8 := by omega
      subst this
      have hL := groups_lok b S hS hall 256 (usedF b) [] (usedF_lt b) (usedF_lt b) (show KvOK b [] from fun p hp => by cases hp)
      have hk2 := kvF_ok 256 [] (usedF b) (usedF_lt b) (show KvOK b [] from fun p hp => by cases hp)
      have hnm2 := namesL_kv hk2
      unfold LKG at hL
      generalize kvF b 256 [] (usedF b) = kv2 at *
      generalize gF b 256 (usedF b) = g at *
      have hL : LOK Tryd.prog 100 (inI [153092144, 153092704]) ([.ptr 153092144 256 0 0, .mref 153092704, I (usedF b : Nat)] ++ []) (stO (LG S [])) (SL (gI g)) (stO (LG S kv2)) := hL
      rw [show usedK b 8 = usedF b from rfl] at h4
      simp -implicitDefEqProofs (disch := omega) only [go_sem, h0, h3, h4, h8, h9, h10, mS]
      refine makeMap_mk ?_
      simp -implicitDefEqProofs (disch := omega) only [go_sem, h0, h3, h4, h8, h9, h10, mS]
      refine callC_sem rfl ?_
      refine lent_mk [153092144, 153092704] hL ?_ ?_ ?_ ?_ ?_ ?_ ?_ (hsp := fun id h _ => List.contains_iff_mem.2 h)
      · simp -implicitDefEqProofs (disch := omega) only [go_sem]
      · simp -implicitDefEqProofs (disch := omega) only [go_sem, h3, h4]
      · simp -implicitDefEqProofs (disch := omega) only [go_sem, mS]
      · simp -implicitDefEqProofs (disch := omega) only [go_sem]
      · simp -implicitDefEqProofs (disch := omega) only [go_sem]
      · simp -implicitDefEqProofs (disch := omega) only [go_sem, hnm2]
      · simp -implicitDefEqProofs (disch := omega) only [go_sem, h0, h3, h4, h8, h9, h10, mS, Tryd.results72]
end Go.Proofs.YtgbcfpcjljhijaaDoor
set_option maxRecDepth 100000
namespace Go.Proofs.YtgbcfpcjljhijaaDoor
open Go.Vai Go Go.Proofs
open Nat (reduceEqDiff reduceMul reduceAdd reduceDiv reduceLeDiff)
open Int (reduceToNat reduceNe reduceEq reduceLT reduceLE)
def settR (b : List Int) : AV := if goodF b = true then .tup [.new 77 3 ((settF b (usedF b)).map DPN), Er 0] else .tup [.new 77 3 [], Er 390]
set_option maxHeartbeats 1000000 in
theorem Settle_ev (b : List Int) (hl : b.length ≤ 9223372036854775807) : Ev Tryd.prog 38 [SL b] (settR b) := by
  refine ev_of Tryd.func38 rfl (by kernel_rfl) moN (Nat.le_of_ble_eq_true rfl) ?_
  simp -implicitDefEqProofs (disch := omega) only [go_sem, Tryd.ntmps38]
  refine callC_at (isGood_ev b hl) ?_
  simp -implicitDefEqProofs (disch := omega) only [go_sem]
  refine branch_mk (fun hb => ?_) (fun hb => ?_)
  · simp -implicitDefEqProofs (disch := omega) only [go_sem, Tryd.results38]
    simp [settR, hb]
  · have hb : goodF b = true := by simpa using hb
    obtain ⟨h8, hr, _⟩ := good_rng hb
    rw [settR, if_pos hb]
    simp -implicitDefEqProofs (disch := omega) only [go_sem]
    refine callC_at (clone_evN b (by omega) (by omega)) ?_
    simp -implicitDefEqProofs (disch := omega) only [go_sem, h8]
    have hgr := grouped_ev b hb
    have hat := fun i => sett_at hb i
    have hset : settF b (usedF b) = ((grpsF b).foldl (fun st g => payF g st) (b, [])).2 := rfl
    have h256 : ∀ i, i < (grpsF b).length → gd (grpsF b) i < 256 := fun i hi => (grps_has hb (gd_mem _ i hi)).1
    have hgl : (grpsF b).length ≤ 8 := by have := (settF_spec hb).2.2; have h8' := nzK_le b 8; unfold nzF at this; omega
    rw [hset]
    rw [show gF b 256 (usedF b) = grpsF b from rfl] at hgr
    have htf := take_fold (b := b) (grpsF b)
    generalize grpsF b = gs at *
    refine callC_at hgr ?_
    simp -implicitDefEqProofs (disch := omega) only [go_sem, h8]
    refine loopC_mk (fun n E σ => ∃ (i : Nat) (l : List Int) (o : List DebN), i + n = gs.length ∧ (l, o) = (gs.take i).foldl (fun st g => payF g st) (b, []) ∧ l.length = 8 ∧ o.length ≤ 8 ∧ E 4 = .own 81788992 3 0 o.length ∧ E 5 = .ptr 81789008 1 0 0 ∧
      E 6 = .clo 69 [.ptr 81789008 1 0 0] ∧ E 19 = SL (gI gs) ∧ E 20 = I gs.length ∧ E 21 = I i ∧ σ 81788992 = some ⟨77, 3, o.map DPN⟩ ∧ σ 81789008 = some ⟨33, 1, [.own 81789184 1 0 8]⟩ ∧ σ 81789184 = some ⟨3, 1, l.map I⟩) gs.length ⟨0, b, [], by omega, rfl, h8, by simp, ?_⟩ ?_
    · simp -implicitDefEqProofs (disch := omega) only [go_sem, h8]
      rfl
    · rintro n E σ ⟨i, l, o, hi, hst, hl8, ho, h4, h5, h6, h19, h20, h21, m4, m5, mL⟩
      simp -implicitDefEqProofs (disch := omega) only [go_sem, h4, h5, h6, h19, h20, h21, m4, m5, mL]
      refine branch_mk (fun hlt => ?_) (fun hlt => ?_)
      · have hok := hat i (by omega)
        rw [← hst] at hok
        obtain ⟨hok, hcnt⟩ := hok
        simp only at hok hcnt
        have hg8 := h256 i (by omega)
        have hgi : gd (gI gs) i = ((gd gs i : Nat) : Int) := by
          have := gd_some gs i (by omega)
          rw [gd, List.getD_eq_getElem?_getD, List.getElem?_map, this]; rfl
        simp -implicitDefEqProofs (disch := omega) only [go_sem, h4, h5, h6, h19, h20, h21, m4, m5, mL, hgi]
        have htf := htf i (by omega)
        rw [← hst] at htf
        generalize gd gs i = g at *
        refine loopC_mk (fun k E σ => ∃ (l' : List Int) (o' : List DebN), nzF l' = k ∧ payF g (l', o') = payF g (l, o) ∧ GrpOK g l' ∧ o'.length + nzF l' ≤ 8 ∧ E 4 = .own 81788992 3 0 o'.length ∧ E 5 = .ptr 81789008 1 0 0 ∧
          E 6 = .clo 69 [.ptr 81789008 1 0 0] ∧ E 8 = I (g : Nat) ∧ E 19 = SL (gI gs) ∧ E 20 = I gs.length ∧ E 21 = I i ∧ σ 81788992 = some ⟨77, 3, o'.map DPN⟩ ∧ σ 81789008 = some ⟨33, 1, [.own 81789184 1 0 8]⟩ ∧ σ 81789184 = some ⟨3, 1, l'.map I⟩) (nzF l) ⟨l, o, rfl, rfl, hok, hcnt, ?_⟩ ?_
        · simp -implicitDefEqProofs (disch := omega) only [go_sem, h4, h5, h6, h19, h20, h21, m4, m5, mL, hgi]
        · clear h4 h5 h6 h19 h20 h21 m4 m5 mL E σ
          rintro k E σ ⟨l', o', hk, hpay, hok', hcnt', h4, h5, h6, h8', h19, h20, h21, m4, m5, mL⟩
          have hl8' := hok'.len
          have e8 : l'.take 8 = l' := List.take_of_length_le (by omega)
          simp -implicitDefEqProofs (disch := omega) only [go_sem, h4, h5, h6, h8', h19, h20, h21, m4, m5, mL, hl8', e8]
          refine callC_at (next_ev l' g (-1) hl8' hg8 (.inr rfl) hok'.rng) ?_
          simp -implicitDefEqProofs (disch := omega) only [go_sem, h4, h5, h6, h8', h19, h20, h21, m4, m5, mL, hl8', e8]
          refine callC_at (next_ev l' g 1 hl8' hg8 (.inl rfl) hok'.rng) ?_
          simp -implicitDefEqProofs (disch := omega) only [go_sem, h4, h5, h6, h8', h19, h20, h21, m4, m5, mL, hl8', e8]
          refine branch_mk (fun hneg => ?_) (fun hneg => ?_)
          · have hneg : frmF l' g < 0 := hneg
            rw [payF_stop hneg] at hpay
            simp -implicitDefEqProofs (disch := omega) only [go_sem, h4, h5, h6, h8', h19, h20, h21, m4, m5, mL, hl8', e8]
            refine againQ_mk (n - 1) (by omega) ⟨i + 1, l', o', by omega, hpay.trans htf.symm, hl8', by omega, ?_⟩
            simp -implicitDefEqProofs (disch := omega) only [go_sem, h4, h5, h6, h8', h19, h20, h21, m4, m5, mL, hl8', e8]
            simp
          · have hneg : ¬ frmF l' g < 0 := hneg
            obtain ⟨f, t, hp⟩ := frm_pos hok' hneg
            obtain ⟨a1, a2, a3, a4, a5, a6, ap, al, aat⟩ := pay_at hok' hp
            have hz := (pay_nz hok' hp).1
            have ef : selF l' g (-1) 0 8 = (f : Int) := hp.frm
            have et : selF l' g 1 0 8 = (t : Int) := hp.to
            have f8 := hp.f8
            have t8 := hp.t8
            have rf := hok'.rng f f8
            have rt := hok'.rng t t8
            have wn : IntKind.i64.wrap (0 - gd l' f) = -(gd l' f) := by rw [Int.zero_sub]; exact wrap64_of (by omega)
            have em : min (-(gd l' f)) (gd l' t) = amtF l' g := by unfold amtF; rw [hp.frm, hp.to, Int.toNat_natCast, Int.toNat_natCast]
            have e1 : IntKind.i64.wrap (gd l' f + amtF l' g) = gd l' f + amtF l' g := wrap64_of (by omega)
            have e2 : gd (l'.set f (gd l' f + amtF l' g)) t = gd l' t := by rw [gd_set _ _ _ _ (by omega), if_neg (fun e => a6 e.symm)]
            have e3 : IntKind.i64.wrap (gd l' t - amtF l' g) = gd l' t - amtF l' g := wrap64_of (by omega)
            have ep2 : payL l' g = (l'.set f (gd l' f + amtF l' g)).set t (gd l' t - amtF l' g) := by
              rw [ap]; unfold addFN; rw [Int.toNat_natCast, Int.toNat_natCast, e2, Int.sub_eq_add_neg]
            have ed : payD l' g = ((f : Int), (t : Int), amtF l' g) := by unfold payD; rw [hp.frm, hp.to]
            have hstep := payF_step (o := o') hok' hneg
            rw [ed] at hstep
            simp -implicitDefEqProofs (disch := omega) only [go_sem, h4, h5, h6, h8', h19, h20, h21, m4, m5, mL, hl8', e8, ef, et, wn, em, e1, e2, e3]
            refine againQ_mk (nzF (payL l' g)) (by omega) ⟨payL l' g, o' ++ [((f : Int), (t : Int), amtF l' g)], rfl, hstep.symm.trans hpay, pay_ok hok' hp, by rw [List.length_append, List.length_singleton]; omega, ?_⟩
            simp -implicitDefEqProofs (disch := omega) only [go_sem, h4, h5, h6, h8', h19, h20, h21, m4, m5, mL, hl8', e8, ep2]
      · have : i = gs.length := by omega
        subst this
        rw [List.take_length] at hst
        rw [← hst]
        simp -implicitDefEqProofs (disch := omega) only [go_sem, h4, h5, h6, h19, h20, h21, m4, m5, mL, Tryd.results38]
end Go.Proofs.YtgbcfpcjljhijaaDoor
set_option maxRecDepth 100000
namespace Go.Proofs.YtgbcfpcjljhijaaDoor
open Go.Vai Go Go.Proofs
open Nat (reduceEqDiff reduceMul reduceAdd reduceDiv reduceLeDiff)
open Int (reduceToNat reduceNe reduceEq reduceLT reduceLE)
theorem settle_good {b : List Int} (hb : goodF b = true) : Ev Tryd.prog 38 [SL b] (.tup [.new 77 3 ((settF b (usedF b)).map DPN), Er 0]) := by
  have h := Settle_ev b (by have := (good_rng hb).1; omega)
  rwa [settR, if_pos hb] at h
theorem bal_valid {l : List DebN} (h : debtsF l 1000000000 = true) : Ev Tryd.prog 37 [DL l] (.tup [.new 3 1 ((balF l).map I), Er 0]) := by
  have := bal_ev l (by have := ((debtsF_iff _ _).1 h).1; omega)
  rwa [balR, if_pos h] at this
end Go.Proofs.YtgbcfpcjljhijaaDoor
set_option maxRecDepth 100000
namespace Go.Proofs.YtgbcfpcjljhijaaDoor
open Go.Vai Go Go.Proofs
open Nat (reduceEqDiff reduceMul reduceAdd reduceDiv reduceLeDiff)
open Int (reduceToNat reduceNe reduceEq reduceLT reduceLE)
theorem sumsF_le {l : List Ch} (hl : ∀ c ∈ l, c.good) (hn : l.length ≤ 60) (j : Nat) (hj : j < 8) : -60000000000 ≤ gd (sumsF l) j ∧ gd (sumsF l) j ≤ 60000000000 := by
  rw [sumsF_gd hl hj]
  have h1 := sumJ_le hl j
  omega
def psum (s : List Int) : Nat → Int
  | 0 => 0
  | n + 1 => psum s n + gd s n
theorem psum8 {l : List Ch} (hl : ∀ c ∈ l, c.good) : psum (sumsF l) 8 = 0 := by
  have := sealF_gd8 l hl
  simp only [psum]; omega
end Go.Proofs.YtgbcfpcjljhijaaDoor
set_option maxRecDepth 100000
namespace Go.Proofs.YtgbcfpcjljhijaaDoor
open Go.Vai Go Go.Proofs
open Nat (reduceEqDiff reduceMul reduceAdd reduceDiv reduceLeDiff)
open Int (reduceToNat reduceNe reduceEq reduceLT reduceLE)
theorem debF_ok {l : List Ch} (hl : ∀ c ∈ l, c.good) (hn : l.length ≤ 60) : debtsF (debF l) 1000000000 = true := by
  refine (debtsF_iff _ _).2 ⟨by have := debF_length l; omega, fun i hi hb => ?_⟩
  have hm := gd_mem (debF l) i hi
  obtain ⟨c, hc, he⟩ := List.mem_map.1 hm
  rw [List.mem_filter, decide_eq_true_eq] at hc
  obtain ⟨⟨h1, h2, h3, h4, h5, h6, _⟩, hn⟩ := hl c hc.1
  rw [← he] at hb
  unfold badF at hb
  simp only at hb
  have := hc.2
  omega
theorem debF_sum (l : List Ch) (hl : ∀ c ∈ l, c.good) (j : Nat) : ((debF l).map (getsF j)).sum = sumJ j l := by
  induction l with
  | nil => rfl
  | cons c l ih =>
    have ih := ih fun d hd => hl d (by simp [hd])
    obtain ⟨⟨h1, h2, h3, h4, h5, h6, _⟩, _⟩ := hl c (by simp)
    have e1 : (c.q.toNat = j) = ((j : Int) = c.q) := propext ⟨fun h => by omega, fun h => by omega⟩
    have e2 : (c.p.toNat = j) = ((j : Int) = c.p) := propext ⟨fun h => by omega, fun h => by omega⟩
    rw [sumJ_cons, ← ih]
    unfold debF ctr
    by_cases h0 : 0 < c.a
    · rw [List.filter_cons_of_pos (by simpa using h0)]
      simp only [List.map_cons, List.sum_cons, getsF, e1, e2]
    · rw [List.filter_cons_of_neg (by simpa using h0)]
      obtain h0 : c.a = 0 := by omega
      simp only [h0, ite_self]; omega
theorem debF_bal {l : List Ch} (hl : ∀ c ∈ l, c.good) (hn : l.length ≤ 60) : balF (debF l) = sumsF l := by
  have hok := ((debtsF_iff _ _).1 (debF_ok hl hn)).2
  refine gd_ext (by rw [balF, balN_length, sumsF_len]) fun j hj => ?_
  rw [balF, balN_length] at hj
  rw [balF, balN_gd _ hok _ (Nat.le_refl _) j hj, List.take_length, debF_sum l hl, sumsF_gd hl hj]
theorem sum8 {b : List Int} (h : b.length = 8) : b.sum = gd b 0 + gd b 1 + gd b 2 + gd b 3 + gd b 4 + gd b 5 + gd b 6 + gd b 7 := by
  match b, h with
  | [a0, a1, a2, a3, a4, a5, a6, a7], _ => simp [gd]; omega
theorem sums_goodB {l : List Ch} (hl : ∀ c ∈ l, c.good) (hn : l.length ≤ 60) : goodF (sumsF l) = true := by
  have h8 := sumsF_len l
  have h0 := psum8 hl
  simp only [psum] at h0
  unfold goodF
  rw [Bool.and_eq_true, Bool.and_eq_true, List.all_eq_true, decide_eq_true_eq, decide_eq_true_eq]
  refine ⟨fun n hn' => ?_, h8, by rw [sum8 h8]; omega⟩
  obtain ⟨j, hj, rfl⟩ := List.mem_iff_getElem.1 hn'
  have := sumsF_le hl hn j (by omega)
  rw [gd_get _ j hj] at this
  unfold inFN
  rw [Bool.and_eq_true, decide_eq_true_eq, decide_eq_true_eq]; omega
set_option maxHeartbeats 4000000 in
theorem nets_ev (key : Int) (x : List Fiv) (hk : R64 key) (hx : x.length ≤ 9223372036854775807) (hr : ∀ y ∈ x, y.r) : Ev Tryd.prog 10 [I key, FL x] (B true) := by
  have hm := made_ev key x hk hx hr
  have hok := made_ok key x
  have hg := madeF_good x
  have hl10 := madeF_len x
  generalize madeK key = K at *
  generalize madeF x = l at *
  have k1 := sealOK_ev K l (by omega) hok
  have hs : (sealT K l).1 = sumsF l := seal_sums K hg (by omega)
  generalize hS : sealT K l = S at *
  obtain ⟨S1, S2⟩ := S
  simp only at hs
  subst hs
  have hch : chsOK l = true := by have h := hok; simp only [ledOK, Bool.and_eq_true] at h; exact h.2
  have hdo := debF_ok hg (show l.length ≤ 60 by omega)
  have hgood := sums_goodB hg (show l.length ≤ 60 by omega)
  have hb := ev_sl (bal_valid hdo) (.tup [SL (balF (debF l)), Er 0])
  rw [debF_bal hg (by omega)] at hb
  have hse := ev_sl (settle_good hgood) (.tup [DL (settF (sumsF l) (usedF (sumsF l))), Er 0])
  have hck := settF_check hgood
  have hsp := settF_spec hgood
  have h8 := sumsF_len l
  have hnz := nzK_le (sumsF l) 8
  have hdl := debtsOK_ev l hch
  generalize debF l = D at *
  generalize sumsF l = s at *
  generalize settF s (usedF s) = P at *
  have hP8 : P.length ≤ 8 := by have := hsp.2.2; unfold nzF at this; omega
  have hP := hsp.2.1
  clear hsp
  have hPb : ∀ i, i < P.length → ¬ badF 1000000000000 (gd P i) := fun i hi => (hP _ (gd_mem P i hi)).1
  have hbal : balF P = s := by
    have h := hck
    simp only [checkFN, Bool.and_eq_true, decide_eq_true_eq] at h
    exact h.2.2
  have hce := check_evN s P (by omega) (by omega)
  rw [hck] at hce
  refine ev_of Tryd.func10 rfl (by kernel_rfl) mo (Nat.le_of_ble_eq_true rfl) ?_
  simp -implicitDefEqProofs (disch := omega) only [go_sem, Tryd.ntmps10]
  refine callC_at sane_ev ?_
  simp -implicitDefEqProofs (disch := omega) only [go_sem]
  refine callC_at hm ?_
  simp -implicitDefEqProofs (disch := omega) only [go_sem]
  refine callC_at k1 ?_
  simp -implicitDefEqProofs (disch := omega) only [go_sem]
  refine callC_at hdl ?_
  simp -implicitDefEqProofs (disch := omega) only [go_sem]
  refine callC_at hb ?_
  simp -implicitDefEqProofs (disch := omega) only [go_sem]
  refine callC_at hse ?_
  simp -implicitDefEqProofs (disch := omega) only [go_sem]
  refine callC_at (intsR_ev s s (by omega) (by omega)) ?_
  simp -implicitDefEqProofs (disch := omega) only [go_sem]
  refine callC_at hce ?_
  simp -implicitDefEqProofs (disch := omega) only [go_sem]
  refine loopC_mk (fun n E σ => ∃ v : Nat, v + n = P.length ∧ E 7 = .ptr 23068784 2 0 0 ∧ E 13 = DL P ∧ E 15 = .own 23069824 1 0 8 ∧ E 16 = I v ∧ σ 23068784 = some ⟨35, 2, [RP (s, S2)]⟩ ∧ σ 23069824 = some ⟨3, 1, (balN P v).map I⟩) P.length ⟨0, by omega, ?_⟩ ?_
  · simp -implicitDefEqProofs (disch := omega) only [go_sem]
    simp [balN]
  rintro n E σ ⟨v, hv, e7, e13, e15, e16, s7, s72⟩
  simp -implicitDefEqProofs (disch := omega) only [go_sem, e7, e13, e15, e16, s7, s72]
  refine branch_mk (fun hc => ?_) (fun hc => ?_)
  · have hd := hPb v (by omega)
    have hbl := balN_le P hPb (by omega) v (by omega)
    have hbl1 := balN_le P hPb (by omega) (v + 1) (by omega)
    have hl8 := balN_length P v
    have hstep : balN P (v + 1) = addFN (addFN (balN P v) (gd P v).1 (-(gd P v).2.2)) (gd P v).2.1 (gd P v).2.2 := rfl
    unfold badF at hd
    simp -implicitDefEqProofs (disch := omega) only [go_sem, e7, e13, e15, e16, s7, s72, hl8]
    refine branch_r (by omega) ?_
    simp -implicitDefEqProofs (disch := omega) only [go_sem, e7, e13, e15, e16, s7, s72, hl8]
    refine branch_r (by omega) ?_
    simp -implicitDefEqProofs (disch := omega) only [go_sem, e7, e13, e15, e16, s7, s72, hl8]
    refine branch_r (by omega) ?_
    simp -implicitDefEqProofs (disch := omega) only [go_sem, e7, e13, e15, e16, s7, s72, hl8]
    refine branch_r (by omega) ?_
    simp -implicitDefEqProofs (disch := omega) only [go_sem, e7, e13, e15, e16, s7, s72, hl8]
    generalize gd P v = d at *
    obtain ⟨a, b, c⟩ := d
    simp only at hd hstep
    obtain ⟨a, rfl⟩ : ∃ q : Nat, a = q := ⟨a.toNat, by omega⟩
    obtain ⟨b, rfl⟩ : ∃ q : Nat, b = q := ⟨b.toNat, by omega⟩
    generalize balN P v = B1 at *
    have hba := hbl a (by omega)
    have hsub : (gd B1 a - c) = gd B1 a + -c := by omega
    have hB2 : (B1.set a (gd B1 a + -c)).length = 8 := by rw [List.length_set]; exact hl8
    have hgb : gd (B1.set a (gd B1 a + -c)) b = gd B1 b := by rw [gd_set _ _ _ _ (by omega), if_neg (by omega)]
    have hbb := hbl b (by omega)
    have hst : balN P (v + 1) = (B1.set a (gd B1 a + -c)).set b (gd B1 b + c) := by
      rw [hstep]; unfold addFN; simp only [Int.toNat_natCast]; rw [hgb]
    simp -implicitDefEqProofs (disch := omega) only [go_sem, e7, e13, e15, e16, s7, s72, hl8]
    refine againQ_mk (n - 1) (by omega) ⟨v + 1, by omega, ?_⟩
    rw [hst, ← hsub]
    simp -implicitDefEqProofs (disch := omega) only [go_sem, e7, e13, e15, e16, s7, s72, hl8]
    rw [show gd (B1.set a (gd B1 a - c)) b = gd B1 b by rw [hsub]; exact hgb, show IntKind.i64.wrap (gd B1 b + c) = gd B1 b + c from wrap64_of (by omega)]
    simp [List.map_set]
  · obtain rfl : v = P.length := by omega
    have hbF : balN P P.length = s := hbal
    rw [hbF] at s72
    have hst : s.take 8 = s := List.take_of_length_le (by omega)
    simp -implicitDefEqProofs (disch := omega) only [go_sem, e7, e13, e15, e16, s7, s72, h8, hst]
    refine callC_at (intsR_ev s s (by omega) (by omega)) ?_
    simp -implicitDefEqProofs (disch := omega) only [go_sem, Tryd.results10]
    try simp
end Go.Proofs.YtgbcfpcjljhijaaDoor
set_option maxRecDepth 100000
namespace Go.Proofs.YtgbcfpcjljhijaaDoor
open Go.Vai Go Go.Proofs
open Nat (reduceEqDiff reduceMul reduceAdd reduceDiv reduceLeDiff)
open Int (reduceToNat reduceNe reduceEq reduceLT reduceLE)
theorem auditNets_lifted (os : Os) (started : os.Started) (H : Type) (enc : TypeId × Value → H) :
    ReturnsInHanded {} Tryd.checked os 10 .any (fun w args => (Rows.auditNetsSpec.pre enc Tryd.prog Tryd.f10 [] false w args ∧ laidMetH Tryd.prog laid3 w) ∧ sizedMet enc Tryd.prog Tryd.f10 (OpenSpec.ofChange Rows.auditNetsSpec) false w args)
      (Rows.auditNetsSpec.post enc Tryd.prog Tryd.f10 false true false false) :=
  liftedG (C := Tryd.checked) (tb := 4) (ps := [OI, OFL]) (X := fun w _ => laidMetH Tryd.prog laid3 w) (fun _ _ _ hh h => h.of_heap hh) own3 started (by kernel_rfl) Tryd.func10
    (ChangeSpec.witness_shaped (enc := enc) (C := Tryd.checked) (os := os) (X := fun w _ => laidMetH Tryd.prog laid3 w) false (World.doorLaid Tryd.prog 14 os) #[.int .i64 0, .slice none 0 0] 8 rfl (World.shaped_of_RefB (by kernel_rfl) (by kernel_rfl)) (by kernel_rfl) (by kernel_rfl) (by kernel_rfl) (door_met os _))
    laidOut3 (by kernel_rfl) (by kernel_rfl) (by kernel_rfl) rfl (len_2 fun _ _ => rfl)
    (fun w => ⟨o_int (by kernel_rfl), o_fives, trivial⟩)
    (allP_2 fun a0 a1 h0 h1 => by
      obtain ⟨x0, hx0, rfl⟩ := h0
      obtain ⟨x1, hx1, hr1, rfl⟩ := h1
      exact nets_ev x0 x1 hx0 hx1 hr1)
    (fun _ _ h => gok h)
theorem auditNets_row : Rows.AuditNetsSaid :=
  OpenClaim.holds_of_wide 10 Tryd.f10 rfl rfl rfl rfl rfl rfl rfl ⟨rfl, rfl, rfl, rfl, rfl⟩ rfl rfl rfl rfl rfl (by kernel_rfl) Tryd.func10 (by kernel_rfl)
    (of_decide_eq_true (by kernel_rfl)) (by unfold Func.isWrapper; first | (rw [if_pos (by decide +kernel)]; kernel_rfl) | (rw [if_neg (by decide +kernel)]; exact ⟨rfl, rfl⟩))
    (fun os started H enc _ => auditNets_lifted os started H enc)
theorem auditNets_holds : Rows.AuditNetsCardSaid :=
  Claim7.holds_tied_plain_at .later [] [.data] true (true, "15e72945ea0d842684219eb61c4c3078e08fef8eedac21bc7f2d20fbaca9026f") false
    auditNets_row (fun _ h => by cases h) (by kernel_rfl) (fun _ h => by cases h) auditNets_row_tie rfl ⟨rfl, rfl⟩ (by kernel_rfl) rfl
    (fun f fn hf hfn => by
      obtain rfl : f = 10 := Option.some.inj ((show Tryd.prog.funcNamed "dialtone/dialtonelaw40.AuditNets" = some 10 by kernel_rfl).symm.trans hf) |>.symm
      obtain rfl : fn = Tryd.f10 := (Option.some.inj (Tryd.func10.symm.trans hfn)).symm
      exact ⟨by kernel_rfl, fun j t ht => by
          rw [Tryd.params10] at ht
          rcases j with _ | j
          · obtain rfl : t = 3 := by simpa using ht.symm
            exact (show Tryd.prog.wantsStandIn 3 = false by kernel_rfl)
          rcases j with _ | j
          · obtain rfl : t = 22 := by simpa using ht.symm
            exact (show Tryd.prog.wantsStandIn 22 = false by kernel_rfl)
          simp at ht⟩)
    (by kernel_rfl)
#print axioms auditNets_holds
end Go.Proofs.YtgbcfpcjljhijaaDoor

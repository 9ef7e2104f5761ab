/- Words for contracts: numbers, lists. -/
import Derived.Test.YtmiahmpobpokmaaVu
set_option linter.unusedSimpArgs false
namespace Go.Vai
open Go

abbrev I (n : Int) : AV := .v (.int .i64 n)
abbrev B (b : Bool) : AV := .v (.bool b)
/-- A slice of integers. -/
abbrev SL (l : List Int) : AV := .sl 1 (l.map I)
/-- In the range of an int. -/
def R64 (n : Int) : Prop := -9223372036854775808 ≤ n ∧ n ≤ 9223372036854775807

def gd {T : Type} [Inhabited T] (l : List T) (n : Nat) : T := l.getD n default
theorem gd_some {T : Type} [Inhabited T] (l : List T) (n : Nat) (h : n < l.length) : l[n]? = some (gd l n) := by
  simp [gd, h]
theorem gd_mem {T : Type} [Inhabited T] (l : List T) (n : Nat) (h : n < l.length) : gd l n ∈ l := List.mem_of_getElem? (gd_some l n h)
theorem gd_none {T : Type} [Inhabited T] (l : List T) (n : Nat) (h : l.length ≤ n) : gd l n = default := by
  simp [gd, h]
@[simp] theorem gd_nil {T : Type} [Inhabited T] (n : Nat) : gd ([] : List T) n = default := by simp [gd]
@[simp] theorem gd_cons_zero {T : Type} [Inhabited T] (x : T) (l : List T) : gd (x :: l) 0 = x := by simp [gd]
@[simp] theorem gd_cons_succ {T : Type} [Inhabited T] (x : T) (l : List T) (n : Nat) : gd (x :: l) (n + 1) = gd l n := by simp [gd]
theorem gd_append_left {T : Type} [Inhabited T] (l m : List T) (n : Nat) (h : n < l.length) : gd (l ++ m) n = gd l n := by simp [gd, List.getElem?_append_left h]
theorem gd_append_right {T : Type} [Inhabited T] (l m : List T) (n : Nat) (h : l.length ≤ n) : gd (l ++ m) n = gd m (n - l.length) := by simp [gd, List.getElem?_append_right h]
theorem gd_ext {T : Type} [Inhabited T] {l m : List T} (hl : l.length = m.length) (h : ∀ i, i < l.length → gd l i = gd m i) : l = m := by
  refine List.ext_getElem? fun i => ?_
  by_cases hi : i < l.length
  · rw [gd_some l i hi, gd_some m i (by omega), h i hi]
  · rw [List.getElem?_eq_none (by omega), List.getElem?_eq_none (by omega)]
theorem gd_set {T : Type} [Inhabited T] (l : List T) (i n : Nat) (x : T) (h : i < l.length) : gd (l.set i x) n = if n = i then x else gd l n := by
  unfold gd
  rw [List.getD_eq_getElem?_getD, List.getD_eq_getElem?_getD, List.getElem?_set]
  by_cases hn : i = n
  · subst hn; simp [h]
  · rw [if_neg hn, if_neg (fun e => hn e.symm)]

section
variable {T : Type} [Inhabited T] {A : Prop} {k : AV → Prop}
@[go_sem] theorem optPt_map (l : List T) (f : T → AV) (n : Nat) : optPt A ((l.map f)[n]?) k = needV (A ∧ n < l.length) k (.pt (f (gd l n)) 0) := by
  by_cases h : n < l.length
  · rw [List.getElem?_map, gd_some l n h]; simp [optPt, needV, h]
  · rw [List.getElem?_eq_none (by simp; omega)]; simp [optPt, needV, h]
@[go_sem] theorem loadE_map {P : Program} {t : TypeId} (l : List T) (f : T → AV) (n j : Nat) : loadE P t ((l.map f)[n]?) j k = need (n < l.length) (partC P t (f (gd l n)).cells j k) := by
  by_cases h : n < l.length
  · rw [List.getElem?_map, gd_some l n h]; simp [loadE, need, h]
  · rw [List.getElem?_eq_none (by simp; omega)]; simp [loadE, need, h]
@[go_sem] theorem stoE_map {P : Program} {t : TypeId} {b : Blk} (l : List T) (f : T → AV) (n : Nat) {id sz i j : Nat} {v : AV} {K : Env → Store → Prop} {E : Env} {σ : Store} :
    stoE P t b ((l.map f)[n]?) id sz i j v K E σ = need (n < l.length) (stoE P t b (some (f (gd l n))) id sz i j v K E σ) := by
  by_cases h : n < l.length
  · rw [List.getElem?_map, gd_some l n h]; simp [need, h]
  · rw [List.getElem?_eq_none (by simp; omega)]; simp [stoE, need, h]
@[go_sem] theorem optV_map (l : List T) (f : T → AV) (n : Nat) : optV ((l.map f)[n]?) k = need (n < l.length) (k (f (gd l n))) := by
  by_cases h : n < l.length
  · rw [List.getElem?_map, gd_some l n h]; simp [optV, need, h]
  · rw [List.getElem?_eq_none (by simp; omega)]; simp [optV, need, h]
end

/-- A cell of a row is written. -/
@[go_sem high] theorem setC_ints (l : List Int) (j : Nat) (x : Int) (hj : j < l.length) (h1 : l.length ≠ 1) : setC (.agg (l.map I)) j (I x) = .agg ((l.set j x).map I) := by
  rw [setC_eq, if_neg (by simp; omega)]
  congr 1
  simp only [AV.cells_agg, AV.cells_v, List.length_singleton, ← List.map_take, ← List.map_drop]
  rw [List.set_eq_take_append_cons_drop, if_pos hj]
  simp
attribute [go_sem] List.length_append Nat.le_refl Int.le_refl List.range_zero List.nodup_nil List.nodup_cons List.mem_cons List.not_mem_nil not_false_eq_true or_false false_or List.length_set Nat.mul_one Nat.zero_add Nat.add_zero Nat.one_mul Nat.zero_mul List.set_cons_zero List.set_cons_succ List.set_nil
@[go_sem] theorem drop_mapL {T U : Type} (l : List T) (f : T → U) (n : Nat) : (l.map f).drop n = (l.drop n).map f := (List.map_drop ..).symm
@[go_sem] theorem take_mapL {T U : Type} (l : List T) (f : T → U) (n : Nat) : (l.map f).take n = (l.take n).map f := (List.map_take ..).symm
@[go_sem] theorem append_mapL {T U : Type} (l m : List T) (f : T → U) : l.map f ++ m.map f = (l ++ m).map f := (List.map_append ..).symm
theorem gd_drop {T : Type} [Inhabited T] (l : List T) (n i : Nat) : gd (l.drop n) i = gd l (n + i) := by simp [gd]
theorem gd_take {T : Type} [Inhabited T] (l : List T) (n i : Nat) (h : i < n) : gd (l.take n) i = gd l i := by simp [gd, List.getElem?_take, h]
@[go_sem] theorem wrap64_of {x : Int} (h : -9223372036854775808 ≤ x ∧ x ≤ 9223372036854775807) : IntKind.i64.wrap x = x := by
  simp [IntKind.wrap, IntKind.bits, IntKind.signed]; split <;> omega

@[go_sem] theorem ite_max (a b : Int) : (if b > a then b else a) = max a b := by split <;> omega
@[go_sem] theorem ite_min (a b : Int) : (if b < a then b else a) = min a b := by split <;> omega
@[go_sem] theorem take_all {T : Type} (l : List T) (n : Nat) (h : l.length ≤ n) : l.take n = l := List.take_of_length_le h
@[go_sem] theorem take_snoc {T : Type} (l : List T) (x : T) (n : Nat) (h : l.length + 1 ≤ n) : (l ++ [x]).take n = l ++ [x] := List.take_of_length_le (by simpa using h)
@[go_sem] theorem set_ints (l : List Int) (n : Nat) (x : Int) : (l.map I).set n (.v (.int .i64 x)) = (l.set n x).map I := by rw [List.map_set]
theorem R64_tdiv {m d : Int} (hd : 0 < d) (h : R64 m) : R64 (m.tdiv d) := by
  obtain ⟨h1, h2⟩ := h
  by_cases hm : 0 ≤ m
  · rw [Int.tdiv_eq_ediv_of_nonneg hm]
    have a := Int.ediv_nonneg hm (Int.le_of_lt hd)
    have b := Int.ediv_le_self d hm
    exact ⟨by omega, by omega⟩
  · have e : m.tdiv d = -((-m).tdiv d) := by rw [Int.neg_tdiv]; omega
    rw [e, Int.tdiv_eq_ediv_of_nonneg (by omega)]
    have a := Int.ediv_nonneg (show 0 ≤ -m by omega) (Int.le_of_lt hd)
    have b := Int.ediv_le_self d (show 0 ≤ -m by omega)
    exact ⟨by omega, by omega⟩
@[go_sem] theorem wrap64_tdiv {m d : Int} (hd : 0 < d) (h : -9223372036854775808 ≤ m ∧ m ≤ 9223372036854775807) : IntKind.i64.wrap (m.tdiv d) = m.tdiv d := wrap64_of (R64_tdiv hd h)
theorem namesL_map {T : Type} (p : Nat → Bool) (l : List T) (f : T → AV) (h : ∀ x, AV.namesB p (f x) = false) : AV.namesL p (l.map f) = false := by
  induction l with
  | nil => rfl
  | cons x l ih => simp [AV.namesL, h, ih]
@[go_sem] theorem append_int (l : List Int) (x : Int) : l.map I ++ [.v (.int .i64 x)] = (l ++ [x]).map I := by simp
@[go_sem] theorem namesL_ints (p : Nat → Bool) (l : List Int) : AV.namesL p (l.map I) = false := namesL_map p l I fun _ => rfl
@[go_sem] theorem namesL_sls (p : Nat → Bool) (l : List (List Int)) : AV.namesL p (l.map SL) = false := namesL_map p l SL fun _ => rfl
theorem flatL_map {T : Type} (l : List T) (f : T → AV) (h : ∀ x, AV.flat (f x) = true) : AV.flatL (l.map f) = true := by
  induction l with
  | nil => rfl
  | cons x l ih => simp [AV.flatL, h, ih]
@[go_sem] theorem flatL_ints (l : List Int) : AV.flatL (l.map I) = true := flatL_map l I fun _ => rfl
theorem allOK_map {T : Type} (s : Nat) (l : List T) (f : T → AV) (h : ∀ x, (f x).ok = true ∧ (f x).cells.length = s) : allOK s (l.map f) = true := by
  simp only [allOK, List.all_eq_true]
  intro e he
  obtain ⟨x, _, rfl⟩ := List.mem_map.1 he
  simp [h x]
@[go_sem] theorem allOK_ints (l : List Int) : allOK 1 (l.map I) = true := allOK_map 1 l I fun _ => ⟨rfl, rfl⟩
@[go_sem] theorem allOK_sls (l : List (List Int)) : allOK 1 (l.map SL) = true := allOK_map 1 l SL fun _ => ⟨rfl, rfl⟩

theorem callC_id {S : Sp} {K : Env → Store → Prop} {E : Env} {σ : Store} {kd bi b : Bool} {d g : Nat} {as : List AV} {dst : Option Nat} {L : Prop} (h : callC S kd bi d g b as dst K E σ L) : callC S kd bi d g b as dst K E σ L := h
@[go_sem] theorem upd_upd (E : Env) (d : Nat) (a b : AV) : upd (upd E d a) d b = upd E d b := by funext t; simp only [upd]; split <;> rfl
/-- A call, answered by a contract. -/
theorem callC_at {S : Sp} {K : Env → Store → Prop} {E : Env} {σ : Store} {kd bi b : Bool} {d g : Nat} {as : List AV} {dst : Option Nat} {L : Prop} {r : AV} (h : Ev S.P g as r) (h3 : impK (imp (16 * d) r) dst K E σ)
    (h1 : b = false ∨ r.flat = true := by first | exact .inl rfl | exact .inr rfl | exact .inr (by simp only [go_sem, AV.flat, AV.flatL, Bool.and_self])) (h2 : rlen r ≤ 16 := by exact Nat.le_of_ble_eq_true rfl) (h4 : kd = true ∨ r.dn = false := by first | exact .inl rfl | exact .inr rfl) : callC S kd bi d g b as dst K E σ L := callC_mk r h h1 h2 h4 h3

/-- An argument that reads as another one, too. -/
def AV.asIf (a b : AV) : Prop := ∀ (w : World) (Im : Nat → Prop) (y : Value), IRep w Im a y → IRep w Im b y
theorem asIf_refl (a : AV) : a.asIf a := fun _ _ _ h => h
theorem asIf_nil (s : Nat) : (AV.v (.slice none 0 0)).asIf (.sl s []) := fun _ _ _ h => by cases h; exact .slnil ..
def asIfL : List AV → List AV → Prop
  | [], [] => True
  | a :: as, b :: bs => a.asIf b ∧ asIfL as bs
  | _, _ => False
theorem asIfL_reps {w : World} {Im : Nat → Prop} : ∀ {as bs : List AV} {vs : List Value}, asIfL as bs → IReps w Im as vs → IReps w Im bs vs
  | [], [], _, _, h => h
  | a :: as, b :: bs, [], _, h => by have := h.1; simp at this
  | a :: as, b :: bs, v :: vs, ⟨h1, h2⟩, h => by
    have ih := asIfL_reps (vs := vs) h2 ⟨by simpa using h.1, fun j c y hc hy => h.2 (j + 1) c y (by simpa using hc) (by simpa using hy)⟩
    refine ⟨by simpa using ih.1, fun j c y hc hy => ?_⟩
    cases j with
    | zero => simp at hc hy; subst hc; subst hy; exact h1 _ _ _ (h.2 0 a v rfl rfl)
    | succ j => exact ih.2 j c y (by simpa using hc) (by simpa using hy)
  | [], _ :: _, _, h, _ => h.elim
  | _ :: _, [], _, h, _ => h.elim
theorem Ev.asIf {P : Program} {f : FuncId} {as bs : List AV} {r : AV} (h : Ev P f bs r) (ha : asIfL as bs) : Ev P f as r := by
  rintro as' r' ⟨rfl, rfl⟩
  obtain ⟨h1, h2⟩ := h bs r' ⟨rfl, rfl⟩
  exact ⟨h1, fun w Im vs hw hv => h2 w Im vs hw (asIfL_reps ha hv)⟩

end Go.Vai

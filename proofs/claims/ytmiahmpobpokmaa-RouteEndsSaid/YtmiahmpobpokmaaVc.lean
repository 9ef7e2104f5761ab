/- Operations on abstract values: those that turn nothing. -/
import Derived.Test.YtmiahmpobpokmaaVb
namespace Go.Vai
open Go.RowKit

def tsz (P : Program) (t : TypeId) : Nat := ((P.info? t).map (·.size)).getD 0
def tby (P : Program) (t : TypeId) : Nat := ((P.info? t).map (·.bytes)).getD 0
def tz (P : Program) (t : TypeId) : Option Value := (P.info? t).bind (·.zero)
def tagg (P : Program) (t : TypeId) : Option Bool := match P.underlying t with | some (.struct _) => some true | some (.array _ _) => some true | some _ => some false | none => none
/-- A slice's element. -/
def tel (P : Program) (t : TypeId) : Option TypeId := match P.underlying t with | some (.slice e) => some e | _ => none
/-- An array's length and element. -/
def tarr (P : Program) (t : TypeId) : Option (Nat × TypeId) := match P.underlying t with | some (.array n e) => some (n, e) | _ => none
/-- A struct's fields: offset, type. -/
def tfld (P : Program) (t : TypeId) : Option (List (Nat × TypeId)) := match P.underlying t with | some (.struct fs) => some (fs.toList.map fun f => (f.offset, f.type)) | _ => none
def tint (P : Program) (t : TypeId) : Option IntKind := match P.underlying t with | some (.int k) => some k | _ => none
def tstr (P : Program) (t : TypeId) : Bool := match P.underlying t with | some .string => true | _ => false

/-- What may stand in cells. -/
def AV.ok : AV → Bool
  | .agg _ => true
  | x => x.atom

def ofC : Value → AV
  | .agg cs => if cs.toList.all (·.oneCell') then .agg (cs.toList.map .v) else .any
  | .tuple vs => .tup (vs.toList.map .v)
  | x => .v x

def ev (E : Env) : Operand → AV
  | .tmp t => E t
  | .const x => ofC x
  | .func f => .clo f []
  | .global _ => .any

def bitsI (op : BinOp) (k : IntKind) (x y : Int) : Int :=
  let a := BitVec.ofInt k.bits x
  let b := BitVec.ofInt k.bits y
  match op with
  | .and => k.wrap (a &&& b).toNat
  | .or => k.wrap (a ||| b).toNat
  | .xor => k.wrap (a ^^^ b).toNat
  | .andNot => k.wrap (a &&& ~~~b).toNat
  | _ => 0

/-- What an operator of integers yields. -/
def binI (op : BinOp) (k : IntKind) (a : Int) (k' : IntKind) (b : Int) (r : AV) : Prop :=
  match op with
  | .shl => 0 ≤ b ∧ r = .v (.int k (k.wrap (a * 2 ^ (min b.toNat k.bits))))
  | .shr => 0 ≤ b ∧ r = .v (.int k (a.fdiv (2 ^ (min b.toNat k.bits))))
  | .add => k = k' ∧ r = .v (.int k (k.wrap (a + b)))
  | .sub => k = k' ∧ r = .v (.int k (k.wrap (a - b)))
  | .mul => k = k' ∧ r = .v (.int k (k.wrap (a * b)))
  | .quo => k = k' ∧ b ≠ 0 ∧ r = .v (.int k (k.wrap (a.tdiv b)))
  | .rem => k = k' ∧ b ≠ 0 ∧ r = .v (.int k (a.tmod b))
  | .eql => k = k' ∧ r = .v (.bool (a == b))
  | .neq => k = k' ∧ r = .v (.bool (a != b))
  | .lss => k = k' ∧ r = .v (.bool (decide (a < b)))
  | .leq => k = k' ∧ r = .v (.bool (decide (a ≤ b)))
  | .gtr => k = k' ∧ r = .v (.bool (decide (b < a)))
  | .geq => k = k' ∧ r = .v (.bool (decide (b ≤ a)))
  | .and => k = k' ∧ r = .v (.int k (bitsI .and k a b))
  | .or => k = k' ∧ r = .v (.int k (bitsI .or k a b))
  | .xor => k = k' ∧ r = .v (.int k (bitsI .xor k a b))
  | .andNot => k = k' ∧ r = .v (.int k (bitsI .andNot k a b))

def binS (op : BinOp) (a b : ByteArray) (r : AV) : Prop :=
  match op with
  | .add => a.size + b.size ≤ 9223372036854775807 ∧ r = .v (.string (a ++ b))
  | .eql => r = .v (.bool (a.toList == b.toList))
  | .neq => r = .v (.bool (!(a.toList == b.toList)))
  | .lss => r = .v (.bool (Op.bytesLess a.toList b.toList))
  | .leq => r = .v (.bool (Op.bytesLess a.toList b.toList || a.toList == b.toList))
  | .gtr => r = .v (.bool (!(Op.bytesLess a.toList b.toList || a.toList == b.toList)))
  | .geq => r = .v (.bool (!Op.bytesLess a.toList b.toList))
  | _ => False

/-- A part of a value that is made of cells. -/
def partOf (P : Program) (t : TypeId) (cs : List AV) (off : Nat) (r : AV) : Prop :=
  match tagg P t with
  | some true => 0 < tsz P t ∧ off + tsz P t ≤ cs.length ∧ r = .agg ((cs.drop off).take (tsz P t))
  | some false => cs[off]? = some r
  | none => False

/-- What lies at an address, from which cell on. -/
def cellsAt (σ : Store) (a : AV) (K : List AV → Nat → Prop) : Prop :=
  match a with
  | .pt e j => K e.cells j
  | .ptr id sz i j => ∃ k, σ id = some k ∧ k.sz = sz ∧ ∃ e, k.es[i]? = some e ∧ K e.cells j
  | _ => False

/-- The element of a slice, by its index. -/
def slIdx (P : Program) (e : TypeId) (x : AV) (i : Int) (r : AV) : Prop :=
  match x with
  | .sl sz es => 0 < sz ∧ tsz P e = sz ∧ 0 ≤ i ∧ ∃ c, es[i.toNat]? = some c ∧ r = .pt c 0
  | .own id sz o n => 0 < sz ∧ tsz P e = sz ∧ 0 ≤ i ∧ i < (n : Int) ∧ r = .ptr id sz (o + i.toNat) 0
  | _ => False

/-- A slice of a slice. -/
def slCut (P : Program) (e : TypeId) (x : AV) (lo hi : Nat) (r : AV) : Prop :=
  match x with
  | .sl sz es => 0 < sz ∧ tsz P e = sz ∧ lo ≤ hi ∧ hi ≤ es.length ∧ r = .sl sz ((es.drop lo).take (hi - lo))
  | .own id sz o n => 0 < sz ∧ tsz P e = sz ∧ lo ≤ hi ∧ hi ≤ n ∧ r = .own id sz (o + lo) (hi - lo)
  | _ => False
def strCut (x : AV) (lo hi : Nat) (r : AV) : Prop :=
  match x with
  | .v (.string s) => lo ≤ hi ∧ hi ≤ s.size ∧ r = .v (.string (s.extract lo hi))
  | _ => False

def bound (E : Env) (x : Option Operand) (dflt : Nat) (K : Nat → Prop) : Prop :=
  match x with
  | none => K dflt
  | some y => match ev E y with
    | .v (.int _ n) => 0 ≤ n ∧ K n.toNat
    | _ => False

def lenV : AV → Option Nat
  | .sl _ es => some es.length
  | .own _ _ _ n => some n
  | .v (.string s) => some s.size
  | .v (.slice _ n _) => some n
  | _ => none

/-- The kind of a plain type: 0, 1, 2: integer, bool, string. -/
def tkind (P : Program) (t : TypeId) : Option Nat := match P.underlying t with | some (.int _) => some 0 | some .bool => some 1 | some .string => some 2 | _ => none

def fieldKinds (P : Program) : Nat → List Field → Option (List Nat)
  | _, [] => some []
  | i, f :: fs => if f.name != "_" && f.offset == i then (tkind P f.type).bind fun k => (fieldKinds P (i + 1) fs).map (k :: ·) else none

/-- A struct whose fields are plain: their kinds. -/
def teq (P : Program) (t : TypeId) : Option (List Nat) := match P.underlying t with
  | some (.struct fs) => if P.stoodInHeld t || P.eqGuardType P.depth t then none else fieldKinds P 0 fs.toList
  | _ => none

def eqK : List Nat → List AV → List AV → Option Bool
  | [], [], [] => some true
  | 0 :: ks, .v (.int k a) :: r, .v (.int k' b) :: s => if k = k' then (eqK ks r s).map ((a == b) && ·) else none
  | 1 :: ks, .v (.bool a) :: r, .v (.bool b) :: s => (eqK ks r s).map ((a == b) && ·)
  | 2 :: ks, .v (.string a) :: r, .v (.string b) :: s => (eqK ks r s).map ((a.toList == b.toList) && ·)
  | _, _, _ => none

def fillA (place : Nat → Option (Nat × Nat)) (cs : List AV) : List (Nat × AV) → Option (List AV)
  | [] => some cs
  | (i, v) :: rest => match place i with
    | none => none
    | some (off, size) => if v.cells.length = size ∧ off + size ≤ cs.length ∧ v.ok = true then fillA place (cs.take off ++ v.cells ++ cs.drop (off + size)) rest else none

/-- A slice that is not empty: not nil. -/
def AV.full : AV → Bool
  | .sl _ (_ :: _) => true
  | .own _ _ _ (_ + 1) => true
  | _ => false

/-- What an operation that turns nothing yields. -/
def pureV (P : Program) (op : Op) (E : Env) (σ : Store) (r : AV) : Prop :=
  match op with
  | .move x => r = ev E x
  | .assign x => r = ev E x
  | .pick c x y => match ev E c with | .v (.bool b) => r = if b then ev E x else ev E y | _ => False
  | .load t x => cellsAt σ (ev E x) fun cs j => partOf P t cs j r
  | .nilCheck x => match ev E x with | .pt e j => r = .pt e j | .ptr id sz i j => r = .ptr id sz i j | .clo g cs => r = .clo g cs | _ => False
  | .binOp op t x y _ => match ev E x, ev E y with
    | .v (.int k a), .v (.int k' b) => binI op k a k' b r
    | .v (.string a), .v (.string b) => binS op a b r
    | .v (.bool a), .v (.bool b) => tkind P t = some 1 ∧ ((op = .eql ∧ r = .v (.bool (a == b))) ∨ (op = .neq ∧ r = .v (.bool (!(a == b)))))
    | .agg cs, .agg ds => ∃ ks, teq P t = some ks ∧ ∃ b, eqK ks cs ds = some b ∧ ((op = .eql ∧ r = .v (.bool b)) ∨ (op = .neq ∧ r = .v (.bool (!b))))
    | u, .v (.slice none 0 0) => u.full = true ∧ (tel P t).isSome = true ∧ ((op = .eql ∧ r = .v (.bool false)) ∨ (op = .neq ∧ r = .v (.bool true)))
    | _, _ => False
  | .build t parts => ∃ z, tz P t = some z ∧ (ofC z).ok = true ∧
      ((∃ fs, tfld P t = some fs ∧ (fs.all fun f => decide (0 < tsz P f.2)) = true ∧ ∃ cs, fillA (fun i => (fs[i]?).map fun f => (f.1, tsz P f.2)) (ofC z).cells (parts.toList.map fun p => (p.1, ev E p.2)) = some cs ∧ r = .agg cs) ∨
       (∃ m e, tarr P t = some (m, e) ∧ 0 < tsz P e ∧ ∃ cs, fillA (fun i => some (i * tsz P e, tsz P e)) (ofC z).cells (parts.toList.map fun p => (p.1, ev E p.2)) = some cs ∧ r = .agg cs))
  | .unOp op _ x => match op, ev E x with
    | .not, .v (.bool b) => r = .v (.bool (!b))
    | .neg, .v (.int k n) => r = .v (.int k (k.wrap (0 - n)))
    | _, _ => False
  | .convert src dst x => match tint P dst, ev E x with
    | some k, .v (.int _ n) => (∃ d, P.underlying src = some d) ∧ r = .v (.int k (k.wrap n))
    | _, _ => False
  | .makeFunc (.func f) first cs => first = #[] ∧ r = .clo f (cs.toList.map (ev E))
  | .fieldAddr s x f => ∃ fs, tfld P s = some fs ∧ ∃ off t, fs[f]? = some (off, t) ∧ 0 < tsz P t ∧
      match ev E x with | .pt e j => r = .pt e (j + off) | .ptr id sz i j => r = .ptr id sz i (j + off) | _ => False
  | .field s x f => ∃ fs, tfld P s = some fs ∧ ∃ off t, fs[f]? = some (off, t) ∧ match ev E x with | .agg cs => partOf P t cs off r | _ => False
  | .indexAddr t x i => match ev E i with
    | .v (.int _ n) => (∃ e, tel P t = some e ∧ slIdx P e (ev E x) n r) ∨
        (∃ m e, tarr P t = some (m, e) ∧ 0 < tsz P e ∧ 0 ≤ n ∧ n < (m : Int) ∧ match ev E x with | .pt c j => r = .pt c (j + n.toNat * tsz P e) | .ptr id sz o j => r = .ptr id sz o (j + n.toNat * tsz P e) | _ => False)
    | _ => False
  | .index t x i => match ev E i, ev E x with
    | .v (.int _ n), .v (.string s) => tstr P t = true ∧ 0 ≤ n ∧ ∃ c, s[n.toNat]? = some c ∧ r = .v (.int .u8 c.toNat)
    | .v (.int _ n), .agg cs => ∃ m e, tarr P t = some (m, e) ∧ 0 < tsz P e ∧ 0 ≤ n ∧ n < (m : Int) ∧ partOf P e cs (n.toNat * tsz P e) r
    | _, _ => False
  | .extract x i => match ev E x with | .tup vs => vs[i]? = some r | _ => False
  | .slice t x lo hi none => (∃ e, tel P t = some e ∧ ∃ n, lenV (ev E x) = some n ∧ bound E hi n fun h => bound E lo 0 fun l => slCut P e (ev E x) l h r) ∨
      tstr P t = true ∧ (∃ n, lenV (ev E x) = some n ∧ bound E hi n fun h => bound E lo 0 fun l => strCut (ev E x) l h r)
  | .call { callee := .builtin .len, args, argTypes } => match args.toList, argTypes.toList with
    | [x], [t] => (tstr P t = true ∧ match ev E x with | .v (.string s) => r = .v (.int .i64 (s.size : Int)) | _ => False) ∨
        ((tel P t).isSome = true ∧ match ev E x with | .sl _ es => r = .v (.int .i64 (es.length : Int)) | .own _ _ _ n => r = .v (.int .i64 (n : Int)) | .v (.slice _ n _) => r = .v (.int .i64 (n : Int)) | _ => False) ∨
        (∃ m e, tarr P t = some (m, e) ∧ r = .v (.int .i64 (m : Int)))
    | _, _ => False
  | .call { callee := .builtin .max, args, argTypes := _ } => match args.toList.map (ev E) with
    | [.v (.int k a), .v (.int _ b)] => r = .v (.int k (if b > a then b else a))
    | _ => False
  | .call { callee := .builtin .min, args, argTypes := _ } => match args.toList.map (ev E) with
    | [.v (.int k a), .v (.int _ b)] => r = .v (.int k (if b < a then b else a))
    | _ => False
  | _ => False

section runs
variable {P : Program} {w : World} {ρ : Nat → Option Nat} {Im : Nat → Prop}

theorem info_of {t : TypeId} (h : 0 < tsz P t) : ∃ i, P.info? t = some i ∧ i.size = tsz P t ∧ i.bytes = tby P t := by
  unfold tsz tby at *
  cases hi : P.info? t with
  | none => simp [hi] at h
  | some i => exact ⟨i, rfl, by simp, by simp⟩

theorem run_sizeOf' {t : TypeId} (h : 0 < tsz P t) (w : World) : (sizeOf t).run P w = .ok (tsz P t) w := by
  obtain ⟨i, hi, hs, _⟩ := info_of h
  simp [sizeOf, typeInfo, hi, hs]

theorem run_isAgg' {t : TypeId} {b : Bool} (h : tagg P t = some b) (w : World) : (isAgg t).run P w = .ok b w := by
  unfold tagg at h
  unfold isAgg
  cases hu : P.underlying t with
  | none => simp [hu] at h
  | some d =>
    simp only [hu] at h
    rw [Sem.run_bind, run_underlying hu w]
    cases d <;> simp_all

theorem Rep.v_inv {x y : Value} (h : Rep w ρ Im (.v x) y) : y = x := by
  cases h with | im _ _ h => cases h; rfl

theorem Rep.full {a : AV} {y : Value} (h : Rep w ρ Im a y) (hf : a.full = true) : ∃ ad n c, y = .slice (some ad) n c := by
  cases h with
  | im _ _ h =>
    cases h with
    | sl sz es b o cap f => exact ⟨_, _, _, rfl⟩
    | slnil sz a cap => simp [AV.full] at hf
    | _ => simp [AV.full] at hf
  | own id sz n b cap cur e => exact ⟨_, _, _, rfl⟩
  | ownNil id sz => simp [AV.full] at hf
  | ownAt id sz i n b cap a hi hr hn ha hz =>
    cases n with
    | zero => simp [AV.full] at hf
    | succ n => rw [ha (by omega)]; exact ⟨_, _, _, rfl⟩
  | _ => simp [AV.full] at hf
theorem Rep.agg_inv {cs : List AV} {y : Value} (h : Rep w ρ Im (.agg cs) y) : ∃ ys : List Value, y = .agg ys.toArray ∧ cs.length = ys.length ∧ (∀ y ∈ ys, y.oneCell' = true) ∧
    ∀ (j : Nat) (c : AV) (y : Value), cs[j]? = some c → ys[j]? = some y → Rep w ρ Im c y := by
  cases h with
  | im _ _ h => cases h with | agg _ ys hl h1 h => exact ⟨ys, rfl, hl, h1, fun j c y hc hy => .im _ _ (h j c y hc hy)⟩
  | agg _ ys hl h1 h => exact ⟨ys, rfl, hl, h1, h⟩

theorem Rep.tup_inv {cs : List AV} {y : Value} (h : Rep w ρ Im (.tup cs) y) : ∃ ys : List Value, y = .tuple ys.toArray ∧ cs.length = ys.length ∧
    ∀ (j : Nat) (c : AV) (y : Value), cs[j]? = some c → ys[j]? = some y → Rep w ρ Im c y := by
  cases h with
  | im _ _ h => cases h with | tup _ ys hl h => exact ⟨ys, rfl, hl, fun j c y hc hy => .im _ _ (h j c y hc hy)⟩
  | tup _ ys hl h => exact ⟨ys, rfl, hl, h⟩

theorem Rep.clo_inv {g : Nat} {cs : List AV} {y : Value} (h : Rep w ρ Im (.clo g cs) y) : ∃ ys : List Value, y = .func (.func g) #[] ys.toArray ∧ cs.length = ys.length ∧
    ∀ (j : Nat) (c : AV) (y : Value), cs[j]? = some c → ys[j]? = some y → Rep w ρ Im c y := by
  cases h with
  | im _ _ h => cases h with | clo _ _ ys hl h => exact ⟨ys, rfl, hl, fun j c y hc hy => .im _ _ (h j c y hc hy)⟩
  | clo _ _ ys hl h => exact ⟨ys, rfl, hl, h⟩

theorem Rep.agg_mk {cs : List AV} {ys : List Value} (hl : cs.length = ys.length) (h1 : ∀ y ∈ ys, y.oneCell' = true) (h : ∀ (j : Nat) (c : AV) (y : Value), cs[j]? = some c → ys[j]? = some y → Rep w ρ Im c y) :
    Rep w ρ Im (.agg cs) (.agg ys.toArray) := .agg cs ys hl h1 h

/-- A list of cells and what they stand for. -/
def Reps (w : World) (ρ : Nat → Option Nat) (Im : Nat → Prop) (cs : List AV) (ys : List Value) : Prop :=
  cs.length = ys.length ∧ ∀ (j : Nat) (c : AV) (y : Value), cs[j]? = some c → ys[j]? = some y → Rep w ρ Im c y

theorem partOf_sound {t : TypeId} {cs : List AV} {off : Nat} {r : AV} (h : partOf P t cs off r) {ys : List Value} (hr : Reps w ρ Im cs ys) (h1 : ∀ y ∈ ys, y.oneCell' = true) :
    ∃ y, (part t ys.toArray off).run P w = .ok y w ∧ Rep w ρ Im r y := by
  unfold partOf at h
  split at h
  · rename_i ha
    obtain ⟨hz, hle, rfl⟩ := h
    have hsz := run_sizeOf' hz w
    have hx : (ys.drop off).take (tsz P t) = (ys.take (off + tsz P t)).drop off := by rw [List.take_drop]
    refine ⟨.agg ((ys.drop off).take (tsz P t)).toArray, ?_, .agg _ _ (by simp [hr.1]) (fun y hy => h1 y (List.mem_of_mem_drop (List.mem_of_mem_take hy))) fun j c y hc hy => ?_⟩
    · simp only [part, Sem.run_bind, run_isAgg' ha w, Result.andThen_ok, if_true, hsz, Sem.run_pure]
      rw [hx]; simp [List.extract_toArray, List.take_drop]
    · rw [List.getElem?_take] at hc hy
      split at hc
      · simp only [*, if_true, List.getElem?_drop] at hc hy
        exact hr.2 _ c y hc hy
      · cases hc
  · rename_i ha
    have hlt : off < ys.length := by rw [← hr.1]; exact (List.getElem?_eq_some_iff.1 h).1
    refine ⟨ys[off], ?_, hr.2 off r _ h (List.getElem?_eq_getElem hlt)⟩
    simp [part, run_isAgg' ha w, hlt]
  · exact h.elim

theorem add_none (b o i : Nat) : (⟨b, o, none⟩ : Addr).add i = ⟨b, o + i, none⟩ := by
  unfold Addr.add; split <;> simp_all

variable {E : Env} {σ : Store} {a : Act}

theorem cellsAt_sound (hinv : Inv w ρ Im σ) {x : AV} {K : List AV → Nat → Prop} {y : Value} (h : cellsAt σ x K) (hr : Rep w ρ Im x y) :
    ∃ cs j b o ys, K cs j ∧ y = .pointer (some ⟨b, o + j, none⟩) ∧ Reps w ρ Im cs ys ∧ (∀ y ∈ ys, y.oneCell' = true) ∧ ∀ i v, ys[i]? = some v → w.cell? ⟨b, o + i, none⟩ = some v := by
  unfold cellsAt at h
  split at h
  · rename_i e j
    cases hr with
    | im _ _ hr =>
      cases hr with
      | pt _ _ b o f hIm hc hrep =>
        refine ⟨e.cells, j, b, o, (List.range e.cells.length).map f, h, rfl, ⟨by simp, fun i c y hcc hy => ?_⟩, fun y hy => ?_, fun i v hv => ?_⟩
        · have hlt := (List.getElem?_eq_some_iff.1 hcc).1
          simp [hlt] at hy; subst hy
          exact .im _ _ (hrep i c hcc)
        · obtain ⟨i, hi, rfl⟩ := List.mem_map.1 hy
          exact (hc i (by simpa using hi)).2
        · have hlt := (List.getElem?_eq_some_iff.1 hv).1
          simp at hlt
          simp [hlt] at hv; subst hv
          exact (hc i hlt).1
  · rename_i id sz i j
    obtain ⟨k, hk, hsz, e, he, hK⟩ := h
    cases hr with
    | im _ _ hr => cases hr
    | ptr _ _ _ _ b hρ hz =>
      obtain ⟨cur, hb, hlen, hle, hc⟩ := hinv.blk id k b hk hρ (by rw [hsz]; exact hz)
      subst hsz
      have hel := hlen e (List.mem_of_getElem? he)
      have hall : ∀ j', j' < e.cells.length → ∃ x, cur[i * k.sz + j']? = some x ∧ x.oneCell' = true ∧ ∃ c, e.cells[j']? = some c ∧ Rep w ρ Im c x := fun j' hj' => by
        obtain ⟨x, hx, h1, hr⟩ := hc i e j' e.cells[j'] he (List.getElem?_eq_getElem hj')
        exact ⟨x, hx, h1, _, List.getElem?_eq_getElem hj', hr⟩
      refine ⟨e.cells, j, b, i * k.sz, (List.range e.cells.length).map fun j' => (cur[i * k.sz + j']?).getD undef, hK, rfl, ⟨by simp, fun j' c y hcc hy => ?_⟩, fun y hy => ?_, fun j' v hv => ?_⟩
      · have hlt := (List.getElem?_eq_some_iff.1 hcc).1
        obtain ⟨x, hx, _, c', hc', hr⟩ := hall j' hlt
        rw [hcc] at hc'; cases hc'
        simp [hlt, hx] at hy; subst hy; exact hr
      · obtain ⟨j', hj', rfl⟩ := List.mem_map.1 hy
        obtain ⟨x, hx, h1, _⟩ := hall j' (by simpa using hj')
        simpa [hx] using h1
      · have hlt := (List.getElem?_eq_some_iff.1 hv).1
        simp at hlt
        obtain ⟨x, hx, _⟩ := hall j' hlt
        simp [hlt, hx] at hv; subst hv
        rw [cell_of_row w b _ cur k.e (0, 0) hb]; exact hx
  · exact h.elim

theorem load_sound {t : TypeId} {cs : List AV} {j b o : Nat} {r : AV} {ys : List Value} (h : partOf P t cs j r) (hr : Reps w ρ Im cs ys) (h1 : ∀ y ∈ ys, y.oneCell' = true)
    (hc : ∀ (i : Nat) (v : Value), ys[i]? = some v → w.cell? ⟨b, o + i, none⟩ = some v) : ∃ y, (loadVar t ⟨b, o + j, none⟩).run P w = .ok y w ∧ Rep w ρ Im r y := by
  unfold partOf at h
  split at h
  · rename_i ha
    obtain ⟨hz, hle, rfl⟩ := h
    have hl := run_loadCells_list (P := P) w ⟨b, o + j, none⟩ ((ys.drop j).take (tsz P t)) (fun i v hv => by
      rw [add_none, Nat.add_assoc]
      refine hc _ _ ?_
      rw [List.getElem?_take] at hv
      split at hv
      · simpa [List.getElem?_drop] using hv
      · cases hv)
    have hlen : ((ys.drop j).take (tsz P t)).length = tsz P t := by rw [List.length_take, List.length_drop, ← hr.1]; omega
    rw [hlen] at hl
    refine ⟨.agg ((ys.drop j).take (tsz P t)).toArray, ?_, .agg _ _ (by simp [hr.1]) (fun y hy => h1 y (List.mem_of_mem_drop (List.mem_of_mem_take hy))) fun i c y hc' hy => ?_⟩
    · simp only [loadVar, Sem.run_bind, run_isAgg' ha w, Result.andThen_ok, if_true, run_sizeOf' hz w, hl, Sem.run_pure]
    · rw [List.getElem?_take] at hc' hy
      split at hc'
      · simp only [*, if_true, List.getElem?_drop] at hc' hy
        exact hr.2 _ c y hc' hy
      · cases hc'
  · rename_i ha
    have hlt : j < ys.length := by rw [← hr.1]; exact (List.getElem?_eq_some_iff.1 h).1
    refine ⟨ys[j], ?_, hr.2 j r _ h (List.getElem?_eq_getElem hlt)⟩
    have := hc j ys[j] (List.getElem?_eq_getElem hlt)
    simp [loadVar, run_isAgg' ha w, load, Sem.run, this]
  · exact h.elim

theorem ofC_rep (x : Value) : Rep w ρ Im (ofC x) x := by
  unfold ofC
  split
  · rename_i cs
    split
    · rename_i h
      have := IRep.agg (w := w) (Im := Im) (cs.toList.map .v) cs.toList (by simp) (List.all_eq_true.1 h) fun j c y hc hy => by
        rw [List.getElem?_map, hy] at hc; simp at hc; subst hc; exact .v y
      exact .im _ _ (by simpa using this)
    · exact .im _ _ (.any _)
  · rename_i vs
    have := IRep.tup (w := w) (Im := Im) (vs.toList.map .v) vs.toList (by simp) fun j c y hc hy => by
      rw [List.getElem?_map, hy] at hc; simp at hc; subst hc; exact .v y
    exact .im _ _ (by simpa using this)
  · exact .im _ _ (.v _)

def Operand.low (N : Nat) : Operand → Bool
  | .tmp t => decide (t < N)
  | _ => true

theorem ev_rep (henv : EnvRep w ρ Im E a.tmps) {x : Operand} (hx : Operand.low a.tmps.size x = true) : Rep w ρ Im (ev E x) (a.eval x) := by
  cases x with
  | tmp t =>
    simp only [Operand.low, decide_eq_true_eq] at hx
    have h : a.tmps[t]? = some (a.tmps.getD t undef) := by simp [hx]
    exact henv t _ h
  | const v => exact ofC_rep v
  | global g => exact .im _ _ (.any _)
  | func f => exact .clo f [] [] rfl (fun j c y hc => by simp at hc)

end runs
end Go.Vai

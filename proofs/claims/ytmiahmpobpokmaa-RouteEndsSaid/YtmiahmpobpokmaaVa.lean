/- A heap-free account of the walk: abstract values, what they stand for in a world, and how worlds may change. -/
import Derived.WalkKit
import Derived.OrdersIn
import Derived.Laws.AppendOwn
import Derived.RangeFuncRecord
import Derived.Below
namespace Go.Vai

/-- Abstract values. -/
inductive AV where
  | any
  | v (x : Value)
  | agg (cs : List AV)
  | sl (sz : Nat) (es : List AV)
  | pt (e : AV) (j : Nat)
  | own (id sz i n : Nat)
  | ptr (id sz i j : Nat)
  | new (e sz : Nat) (es : List AV)
  | nptr (e sz : Nat) (es : List AV)
  | yld (l : Nat)
  | tup (vs : List AV)
  | clo (f : Nat) (caps : List AV)
  | mp (es : List AV)
  | mref (id : Nat)

def AV.cells : AV → List AV
  | .agg cs => cs
  | a => [a]

/-- What stands in one cell. -/
def AV.atom : AV → Bool
  | .v x => x.oneCell'
  | .sl .. | .pt .. | .own .. | .ptr .. | .clo .. | .mp .. | .mref .. => true
  | _ => false

@[simp] theorem AV.cells_agg (cs : List AV) : (AV.agg cs).cells = cs := rfl
@[simp] theorem AV.cells_v (x : Value) : (AV.v x).cells = [.v x] := rfl
@[simp] theorem AV.cells_sl (s : Nat) (es : List AV) : (AV.sl s es).cells = [.sl s es] := rfl
@[simp] theorem AV.cells_own (a b c d : Nat) : (AV.own a b c d).cells = [.own a b c d] := rfl
@[simp] theorem AV.cells_ptr (a b c d : Nat) : (AV.ptr a b c d).cells = [.ptr a b c d] := rfl
@[simp] theorem AV.cells_pt (e : AV) (j : Nat) : (AV.pt e j).cells = [.pt e j] := rfl
@[simp] theorem AV.cells_clo (f : Nat) (cs : List AV) : (AV.clo f cs).cells = [.clo f cs] := rfl
@[simp] theorem AV.cells_any : AV.any.cells = [.any] := rfl
@[simp] theorem AV.cells_mp (es : List AV) : (AV.mp es).cells = [.mp es] := rfl
@[simp] theorem AV.cells_mref (id : Nat) : (AV.mref id).cells = [.mref id] := rfl

/-- What is fixed for good: no part of it lies in memory that is still written. -/
inductive IRep (w : World) (Im : Nat → Prop) : AV → Value → Prop
  | any (y : Value) : IRep w Im .any y
  | v (x : Value) : IRep w Im (.v x) x
  | agg (cs : List AV) (ys : List Value) (hl : cs.length = ys.length) (h1 : ∀ y ∈ ys, y.oneCell' = true)
      (h : ∀ (j : Nat) (c : AV) (y : Value), cs[j]? = some c → ys[j]? = some y → IRep w Im c y) : IRep w Im (.agg cs) (.agg ys.toArray)
  | slnil (sz : Nat) (a : Option Addr) (cap : Nat) : IRep w Im (.sl sz []) (.slice a 0 cap)
  | sl (sz : Nat) (es : List AV) (b o cap : Nat) (f : Nat → Nat → Value) (hIm : Im b) (hcap : es.length ≤ cap) (hsz : ∀ e ∈ es, e.cells.length = sz)
      (hc : ∀ i j, i < es.length → j < sz → w.cell? ⟨b, o + i * sz + j, none⟩ = some (f i j) ∧ (f i j).oneCell' = true)
      (h : ∀ (i : Nat) (e : AV) (j : Nat) (c : AV), es[i]? = some e → e.cells[j]? = some c → IRep w Im c (f i j)) :
      IRep w Im (.sl sz es) (.slice (some ⟨b, o, none⟩) es.length cap)
  | pt (e : AV) (j b o : Nat) (f : Nat → Value) (hIm : Im b)
      (hc : ∀ i, i < e.cells.length → w.cell? ⟨b, o + i, none⟩ = some (f i) ∧ (f i).oneCell' = true)
      (h : ∀ (i : Nat) (c : AV), e.cells[i]? = some c → IRep w Im c (f i)) : IRep w Im (.pt e j) (.pointer (some ⟨b, o + j, none⟩))
  | tup (vs : List AV) (ys : List Value) (hl : vs.length = ys.length)
      (h : ∀ (j : Nat) (c : AV) (y : Value), vs[j]? = some c → ys[j]? = some y → IRep w Im c y) : IRep w Im (.tup vs) (.tuple ys.toArray)
  | clo (g : Nat) (caps : List AV) (ys : List Value) (hl : caps.length = ys.length)
      (h : ∀ (j : Nat) (c : AV) (y : Value), caps[j]? = some c → ys[j]? = some y → IRep w Im c y) : IRep w Im (.clo g caps) (.func (.func g) #[] ys.toArray)
  | yld (l : Nat) : IRep w Im (.yld l) (.func (.yield l) #[] #[])
  | mpnil : IRep w Im (.mp []) (.map none)
  | mp (es : List AV) (b : Nat) (ents : Array MapEntry) (clk : Nat) (f : Nat → AV) (hIm : Im b) (hb : w.heap[b]? = some (.map ents clk)) (hl : es.length = ents.size)
      (hes : ∀ (i : Nat) (m : MapEntry), ents[i]? = some m → es[i]? = some (.tup [.v m.key, f i]))
      (h : ∀ (i : Nat) (m : MapEntry), ents[i]? = some m → IRep w Im (f i) m.val) : IRep w Im (.mp es) (.map (some b))

theorem IRep.mono {w w' : World} {Im Im' : Nat → Prop} (hI : ∀ b, Im b → Im' b) (hb : ∀ b, Im b → w'.heap[b]? = w.heap[b]?)
    {a : AV} {y : Value} (h : IRep w Im a y) : IRep w' Im' a y := by
  have hc : ∀ b o, Im b → w'.cell? ⟨b, o, none⟩ = w.cell? ⟨b, o, none⟩ := fun b o h => World.cell?_of_block (hb b h)
  induction h with
  | any y => exact .any y
  | v x => exact .v x
  | agg cs ys hl h1 _ ih => exact .agg cs ys hl h1 ih
  | slnil sz a cap => exact .slnil sz a cap
  | sl sz es b o cap f hIm hcap hsz hcc _ ih => exact .sl sz es b o cap f (hI b hIm) hcap hsz (fun i j hi hj => by rw [hc _ _ hIm]; exact hcc i j hi hj) ih
  | pt e j b o f hIm hcc _ ih => exact .pt e j b o f (hI b hIm) (fun i hi => by rw [hc _ _ hIm]; exact hcc i hi) ih
  | tup vs ys hl _ ih => exact .tup vs ys hl ih
  | clo g caps ys hl _ ih => exact .clo g caps ys hl ih
  | yld l => exact .yld l
  | mpnil => exact .mpnil
  | mp es b ents clk f hIm hbb hl hes _ ih => exact .mp es b ents clk f (hI b hIm) (by rw [hb b hIm]; exact hbb) hl hes ih

/-- Blocks that are written. -/
structure Blk where
  e : TypeId
  sz : Nat
  es : List AV

abbrev Store := Nat → Option Blk
abbrev Env := Nat → AV

/-- With the blocks that are written: 'ρ' says where they lie. -/
inductive Rep (w : World) (ρ : Nat → Option Nat) (Im : Nat → Prop) : AV → Value → Prop
  | im (a : AV) (y : Value) (h : IRep w Im a y) : Rep w ρ Im a y
  | agg (cs : List AV) (ys : List Value) (hl : cs.length = ys.length) (h1 : ∀ y ∈ ys, y.oneCell' = true)
      (h : ∀ (j : Nat) (c : AV) (y : Value), cs[j]? = some c → ys[j]? = some y → Rep w ρ Im c y) : Rep w ρ Im (.agg cs) (.agg ys.toArray)
  | tup (vs : List AV) (ys : List Value) (hl : vs.length = ys.length)
      (h : ∀ (j : Nat) (c : AV) (y : Value), vs[j]? = some c → ys[j]? = some y → Rep w ρ Im c y) : Rep w ρ Im (.tup vs) (.tuple ys.toArray)
  | clo (g : Nat) (caps : List AV) (ys : List Value) (hl : caps.length = ys.length)
      (h : ∀ (j : Nat) (c : AV) (y : Value), caps[j]? = some c → ys[j]? = some y → Rep w ρ Im c y) : Rep w ρ Im (.clo g caps) (.func (.func g) #[] ys.toArray)
  | ownNil (id sz : Nat) (hρ : ρ id = none) : Rep w ρ Im (.own id sz 0 0) (.slice none 0 0)
  | own (id sz n b cap : Nat) (cur : Array Value) (e : TypeId) (hρ : ρ id = some b) (hn : n ≤ cap) (hcap : cap ≤ maxLen) (hb : w.heap[b]? = some (.cells cur e (0, 0))) (hsz : cur.size = cap * sz) (hz : sz ≠ 0) :
      Rep w ρ Im (.own id sz 0 n) (.slice (some ⟨b, 0, none⟩) n cap)
  | ownAt (id sz i n b cap : Nat) (a : Option Addr) (hi : 0 < i) (hρ : ρ id = some b) (hn : n ≤ cap) (ha : n ≠ 0 → a = some ⟨b, i * sz, none⟩) (hz : sz ≠ 0) : Rep w ρ Im (.own id sz i n) (.slice a n cap)
  | ptr (id sz i j b : Nat) (hρ : ρ id = some b) (hz : sz ≠ 0) : Rep w ρ Im (.ptr id sz i j) (.pointer (some ⟨b, i * sz + j, none⟩))
  | mref (id b : Nat) (hρ : ρ id = some b) : Rep w ρ Im (.mref id) (.map (some b))

/-- Which blocks it names. -/
inductive Names : AV → Nat → Prop
  | own (id sz i n : Nat) : Names (.own id sz i n) id
  | ptr (id sz i j : Nat) : Names (.ptr id sz i j) id
  | mref (id : Nat) : Names (.mref id) id
  | agg (cs : List AV) (c : AV) (id : Nat) (hc : c ∈ cs) (h : Names c id) : Names (.agg cs) id
  | tup (cs : List AV) (c : AV) (id : Nat) (hc : c ∈ cs) (h : Names c id) : Names (.tup cs) id
  | clo (g : Nat) (cs : List AV) (c : AV) (id : Nat) (hc : c ∈ cs) (h : Names c id) : Names (.clo g cs) id

/-- A block keeps its kind and its size. -/
def Shape (w w' : World) (b : Nat) : Prop := ∀ cur e, w.heap[b]? = some (.cells cur e (0, 0)) → ∃ cur', w'.heap[b]? = some (.cells cur' e (0, 0)) ∧ cur'.size = cur.size

theorem Rep.mono {w w' : World} {ρ ρ' : Nat → Option Nat} {Im Im' : Nat → Prop} (hI : ∀ b, Im b → Im' b) (hc : ∀ b, Im b → w'.heap[b]? = w.heap[b]?)
    {a : AV} {y : Value} (h : Rep w ρ Im a y) (hρ : ∀ id, Names a id → ρ' id = ρ id ∧ ∀ b, ρ id = some b → Shape w w' b) : Rep w' ρ' Im' a y := by
  induction h with
  | im a y h => exact .im a y (h.mono hI hc)
  | agg cs ys hl h1 _ ih => exact .agg cs ys hl h1 fun j c y hj hy => ih j c y hj hy fun id hn => hρ id (.agg cs c id (List.mem_of_getElem? hj) hn)
  | tup cs ys hl _ ih => exact .tup cs ys hl fun j c y hj hy => ih j c y hj hy fun id hn => hρ id (.tup cs c id (List.mem_of_getElem? hj) hn)
  | clo g cs ys hl _ ih => exact .clo g cs ys hl fun j c y hj hy => ih j c y hj hy fun id hn => hρ id (.clo g cs c id (List.mem_of_getElem? hj) hn)
  | ownNil id sz h => exact .ownNil id sz (by rw [(hρ id (.own ..)).1]; exact h)
  | own id sz n b cap cur e hr hn hcap hb hsz hz =>
    obtain ⟨h1, h2⟩ := hρ id (.own ..)
    obtain ⟨cur', h3, h4⟩ := h2 b hr cur e hb
    exact .own id sz n b cap cur' e (by rw [h1]; exact hr) hn hcap h3 (by rw [h4]; exact hsz) hz
  | ownAt id sz i n b cap a hi hr hn ha hz => exact .ownAt id sz i n b cap a hi (by rw [(hρ id (.own ..)).1]; exact hr) hn ha hz
  | ptr id sz i j b hr hz => exact .ptr id sz i j b (by rw [(hρ id (.ptr ..)).1]; exact hr) hz
  | mref id b hr => exact .mref id b (by rw [(hρ id (.mref ..)).1]; exact hr)

/-- A map's entries. -/
def MapOK (w : World) (ρ : Nat → Option Nat) (Im : Nat → Prop) (es : List AV) (b : Nat) : Prop :=
  ∃ ents clk, w.heap[b]? = some (.map ents clk) ∧ es.length = ents.size ∧
    ∀ (i : Nat) (m : MapEntry), ents[i]? = some m → ∃ v, es[i]? = some (.tup [.v m.key, v]) ∧ Rep w ρ Im v m.val

/-- The store stands for the blocks that are written. -/
structure Inv (w : World) (ρ : Nat → Option Nat) (Im : Nat → Prop) (σ : Store) : Prop where
  nil : ∀ id k, σ id = some k → ρ id = none → k.es = []
  map : ∀ id k b, σ id = some k → ρ id = some b → k.sz = 0 → MapOK w ρ Im k.es b
  blk : ∀ id k b, σ id = some k → ρ id = some b → k.sz ≠ 0 → ∃ cur, w.heap[b]? = some (.cells cur k.e (0, 0)) ∧ (∀ e ∈ k.es, e.cells.length = k.sz) ∧ k.es.length * k.sz ≤ cur.size ∧
    (∀ (i : Nat) (e : AV) (j : Nat) (c : AV), k.es[i]? = some e → e.cells[j]? = some c → ∃ x, cur[i * k.sz + j]? = some x ∧ x.oneCell' = true ∧ Rep w ρ Im c x)
  inj : ∀ id id' b, ρ id = some b → ρ id' = some b → id = id'
  live : ∀ id b, ρ id = some b → σ id ≠ none
  apart : ∀ id b, ρ id = some b → ¬ Im b
  low : ∀ b, Im b → b < w.heap.size

theorem Inv.lt {w : World} {ρ : Nat → Option Nat} {Im : Nat → Prop} {σ : Store} (h : Inv w ρ Im σ) {id b : Nat} (hr : ρ id = some b) : b < w.heap.size := by
  cases hs : σ id with
  | none => exact absurd hs (h.live id b hr)
  | some k =>
    by_cases h0 : k.sz = 0
    · obtain ⟨cur, clk, hb, _⟩ := h.map id k b hs hr h0
      exact (Array.getElem?_eq_some_iff.1 hb).1
    · obtain ⟨cur, hb, _⟩ := h.blk id k b hs hr h0
      exact (Array.getElem?_eq_some_iff.1 hb).1

/-- What may have become of the world: 'X' apart, all lies as it lay. -/
structure Ext (w : World) (X : Nat → Prop) (w' : World) : Prop where
  os : w'.os = w.os
  tape : w'.tape = w.tape
  output : w'.output = w.output
  size : w.heap.size ≤ w'.heap.size
  block : ∀ k, k < w.heap.size → ¬ X k → w'.heap[k]? = w.heap[k]?

theorem Ext.refl (w : World) (X : Nat → Prop) : Ext w X w := ⟨rfl, rfl, rfl, Nat.le_refl _, fun _ _ _ => rfl⟩

theorem Ext.trans {w w1 w2 : World} {X Y : Nat → Prop} (h : Ext w X w1) (k : Ext w1 Y w2) (hY : ∀ b, Y b → X b ∨ w.heap.size ≤ b) : Ext w X w2 :=
  ⟨k.os.trans h.os, k.tape.trans h.tape, k.output.trans h.output, Nat.le_trans h.size k.size,
   fun b hb hn => (k.block b (Nat.lt_of_lt_of_le hb h.size) (fun hy => by rcases hY b hy with h1 | h1; exact hn h1; omega)).trans (h.block b hb hn)⟩

theorem Ext.mono {w w' : World} {X Y : Nat → Prop} (h : Ext w X w') (hXY : ∀ b, b < w.heap.size → X b → Y b) : Ext w Y w' :=
  ⟨h.os, h.tape, h.output, h.size, fun b hb hn => h.block b hb fun hx => hn (hXY b hb hx)⟩

theorem Ext.cell {w w' : World} {X : Nat → Prop} (h : Ext w X w') {b o : Nat} (hb : b < w.heap.size) (hn : ¬ X b) : w'.cell? ⟨b, o, none⟩ = w.cell? ⟨b, o, none⟩ :=
  World.cell?_of_block (h.block b hb hn)

theorem Ext.below {w w' : World} (h : Ext w (fun _ => False) w') : RowKit.Below w.heap.size w w' := ⟨h.os, h.tape, h.output, h.size, fun k hk => h.block k hk (fun h => h)⟩

theorem Ext.of_grownBy {w w' : World} {row : Option Nat} {X : Nat → Prop} (h : w.grownBy w' row) (hX : ∀ b, row = some b → X b) : Ext w X w' :=
  ⟨h.os, h.tape, h.output, h.size, fun k hk hn => h.block k hk fun e => hn (hX k e.symm)⟩

/-- The frame's temporaries. -/
def EnvRep (w : World) (ρ : Nat → Option Nat) (Im : Nat → Prop) (E : Env) (tm : Array Value) : Prop := ∀ (t : Nat) (y : Value), tm[t]? = some y → Rep w ρ Im (E t) y

theorem Ext.alloc (w : World) (X : Nat → Prop) (o : Obj) : Ext w X (w.alloc o) := ⟨rfl, rfl, rfl, by simp, fun k hk _ => RowKit.Below.heap_alloc w o k hk⟩

def upd (E : Env) (d : Nat) (a : AV) : Env := fun t => if t = d then a else E t

@[simp] theorem upd_same (E : Env) (d : Nat) (a : AV) : upd E d a d = a := by simp [upd]
theorem upd_ne (E : Env) (d : Nat) (a : AV) (t : Nat) (h : t ≠ d) : upd E d a t = E t := by simp [upd, h]
theorem upd_comm (E : Env) (d d' : Nat) (a a' : AV) (h : d ≠ d') : upd (upd E d a) d' a' = upd (upd E d' a') d a := by
  funext t; simp only [upd]; split <;> split <;> simp_all
theorem upd_self (E : Env) (d : Nat) (a : AV) (h : E d = a) : upd E d a = E := by
  funext t; simp only [upd]; split <;> simp_all

def updS (σ : Store) (d : Nat) (k : Blk) : Store := fun t => if t = d then some k else σ t
@[simp] theorem updS_same (σ : Store) (d : Nat) (k : Blk) : updS σ d k d = some k := by simp [updS]
theorem updS_ne (σ : Store) (d : Nat) (k : Blk) (t : Nat) (h : t ≠ d) : updS σ d k t = σ t := by simp [updS, h]

/-! ### Forgetting a block -/
mutual
def AV.namesB (p : Nat → Bool) : AV → Bool
  | .own a _ _ _ => p a
  | .ptr a _ _ _ => p a
  | .mref a => p a
  | .agg cs => AV.namesL p cs
  | .tup cs => AV.namesL p cs
  | .clo _ cs => AV.namesL p cs
  | _ => false
def AV.namesL (p : Nat → Bool) : List AV → Bool
  | [] => false
  | c :: cs => AV.namesB p c || AV.namesL p cs
end
mutual
def AV.dk (p : Nat → Bool) : AV → AV
  | .own a s i n => if p a then .any else .own a s i n
  | .ptr a s i j => if p a then .any else .ptr a s i j
  | .mref a => if p a then .any else .mref a
  | .agg cs => .agg (AV.dkL p cs)
  | .tup cs => .tup (AV.dkL p cs)
  | .clo g cs => .clo g (AV.dkL p cs)
  | a => a
def AV.dkL (p : Nat → Bool) : List AV → List AV
  | [] => []
  | c :: cs => AV.dk p c :: AV.dkL p cs
end

theorem AV.namesL_iff (p : Nat → Bool) (cs : List AV) : AV.namesL p cs = true ↔ ∃ c ∈ cs, AV.namesB p c = true := by
  induction cs with
  | nil => simp [AV.namesL]
  | cons c cs ih => simp [AV.namesL, ih]

theorem AV.namesB_of (p : Nat → Bool) {a : AV} {id : Nat} (h : Names a id) (hp : p id = true) : AV.namesB p a = true := by
  induction h with
  | own id sz i n => simpa [AV.namesB] using hp
  | ptr id sz i j => simpa [AV.namesB] using hp
  | mref id => simpa [AV.namesB] using hp
  | agg cs c id hc _ ih => simp only [AV.namesB]; exact (AV.namesL_iff p cs).2 ⟨c, hc, ih hp⟩
  | tup cs c id hc _ ih => simp only [AV.namesB]; exact (AV.namesL_iff p cs).2 ⟨c, hc, ih hp⟩
  | clo g cs c id hc _ ih => simp only [AV.namesB]; exact (AV.namesL_iff p cs).2 ⟨c, hc, ih hp⟩

theorem AV.dkL_eq (p : Nat → Bool) (cs : List AV) : AV.dkL p cs = cs.map (AV.dk p) := by
  induction cs with
  | nil => rfl
  | cons c cs ih => simp [AV.dkL, ih]

def AV.kill (p : Nat → Bool) (a : AV) : AV := if AV.namesB p a then AV.dk p a else a
def Blk.kill (p : Nat → Bool) (k : Blk) : Blk := if AV.namesL p k.es then { k with es := AV.dkL p k.es } else k
def killE (p : Nat → Bool) (E : Env) : Env := fun t => (E t).kill p
/-- The blocks themselves go too. -/
def killS (p : Nat → Bool) (σ : Store) : Store := fun t => if p t then none else (σ t).map (Blk.kill p)

theorem Names.agg_iff {cs : List AV} {id : Nat} : Names (.agg cs) id ↔ ∃ c ∈ cs, Names c id :=
  ⟨fun h => by cases h with | agg _ c _ hc h => exact ⟨c, hc, h⟩, fun ⟨c, hc, h⟩ => .agg cs c id hc h⟩

mutual
theorem AV.dk_names (p : Nat → Bool) : ∀ (a : AV) (id' : Nat), Names (AV.dk p a) id' → Names a id' ∧ p id' = false
  | .own a s i n, id', h => by
    simp only [AV.dk] at h; split at h
    · cases h
    · cases h; exact ⟨.own .., by simp_all⟩
  | .ptr a s i n, id', h => by
    simp only [AV.dk] at h; split at h
    · cases h
    · cases h; exact ⟨.ptr .., by simp_all⟩
  | .mref a, id', h => by
    simp only [AV.dk] at h; split at h
    · cases h
    · cases h; exact ⟨.mref .., by simp_all⟩
  | .agg cs, id', h => by
    simp only [AV.dk] at h
    cases h with
    | agg _ c _ hc h => obtain ⟨c0, h0, h1, h2⟩ := AV.dkL_names p cs id' c hc h; exact ⟨.agg cs c0 id' h0 h1, h2⟩
  | .tup cs, id', h => by
    simp only [AV.dk] at h
    cases h with
    | tup _ c _ hc h => obtain ⟨c0, h0, h1, h2⟩ := AV.dkL_names p cs id' c hc h; exact ⟨.tup cs c0 id' h0 h1, h2⟩
  | .clo g cs, id', h => by
    simp only [AV.dk] at h
    cases h with
    | clo _ _ c _ hc h => obtain ⟨c0, h0, h1, h2⟩ := AV.dkL_names p cs id' c hc h; exact ⟨.clo g cs c0 id' h0 h1, h2⟩
  | .any, id', h => by simp only [AV.dk] at h; cases h
  | .v x, id', h => by simp only [AV.dk] at h; cases h
  | .sl s es, id', h => by simp only [AV.dk] at h; cases h
  | .pt e j, id', h => by simp only [AV.dk] at h; cases h
  | .new e s es, id', h => by simp only [AV.dk] at h; cases h
  | .nptr e s es, id', h => by simp only [AV.dk] at h; cases h
  | .yld l, id', h => by simp only [AV.dk] at h; cases h
  | .mp es, id', h => by simp only [AV.dk] at h; cases h
theorem AV.dkL_names (p : Nat → Bool) : ∀ (cs : List AV) (id' : Nat) (c : AV), c ∈ AV.dkL p cs → Names c id' → ∃ c0 ∈ cs, Names c0 id' ∧ p id' = false
  | [], id', c, hc, _ => by simp [AV.dkL] at hc
  | x :: cs, id', c, hc, h => by
    simp only [AV.dkL, List.mem_cons] at hc
    rcases hc with rfl | hc
    · obtain ⟨h1, h2⟩ := AV.dk_names p x id' h; exact ⟨x, by simp, h1, h2⟩
    · obtain ⟨c0, h0, h1⟩ := AV.dkL_names p cs id' c hc h; exact ⟨c0, by simp [h0], h1⟩
end

theorem AV.kill_names (p : Nat → Bool) (a : AV) (id' : Nat) (h : Names (a.kill p) id') : Names a id' ∧ p id' = false := by
  unfold AV.kill at h
  split at h
  · exact AV.dk_names p a id' h
  · rename_i hn
    refine ⟨h, ?_⟩
    cases hp : p id' with
    | false => rfl
    | true => exact absurd (AV.namesB_of p h hp) hn

theorem Rep.dk {w : World} {ρ : Nat → Option Nat} {Im : Nat → Prop} (p : Nat → Bool) {a : AV} {y : Value} (h : Rep w ρ Im a y) : Rep w ρ Im (AV.dk p a) y := by
  have irep : ∀ {a : AV} {y : Value}, IRep w Im a y → IRep w Im (AV.dk p a) y := by
    intro a y h
    induction h with
    | any y => exact .any y
    | v x => exact .v x
    | agg cs ys hl h1 _ ih =>
      simp only [AV.dk, AV.dkL_eq]
      refine .agg _ ys (by simpa using hl) h1 fun j c y hj hy => ?_
      rw [List.getElem?_map] at hj
      cases hc : cs[j]? with
      | none => simp [hc] at hj
      | some c0 => simp [hc] at hj; subst hj; exact ih j c0 y hc hy
    | slnil sz a cap => exact .slnil sz a cap
    | sl sz es b o cap f hIm hcap hsz hcc hh _ => exact .sl sz es b o cap f hIm hcap hsz hcc hh
    | pt e j b o f hIm hcc hh _ => exact .pt e j b o f hIm hcc hh
    | tup cs ys hl _ ih =>
      simp only [AV.dk, AV.dkL_eq]
      refine .tup _ ys (by simpa using hl) fun j c y hj hy => ?_
      rw [List.getElem?_map] at hj
      cases hc : cs[j]? with
      | none => simp [hc] at hj
      | some c0 => simp [hc] at hj; subst hj; exact ih j c0 y hc hy
    | clo g cs ys hl _ ih =>
      simp only [AV.dk, AV.dkL_eq]
      refine .clo g _ ys (by simpa using hl) fun j c y hj hy => ?_
      rw [List.getElem?_map] at hj
      cases hc : cs[j]? with
      | none => simp [hc] at hj
      | some c0 => simp [hc] at hj; subst hj; exact ih j c0 y hc hy
    | yld l => exact .yld l
    | mpnil => exact .mpnil
    | mp es b ents clk f hIm hb hl hes hh _ => exact .mp es b ents clk f hIm hb hl hes hh
  induction h with
  | im a y h => exact .im _ _ (irep h)
  | agg cs ys hl h1 _ ih =>
    simp only [AV.dk, AV.dkL_eq]
    refine .agg _ ys (by simpa using hl) h1 fun j c y hj hy => ?_
    rw [List.getElem?_map] at hj
    cases hc : cs[j]? with
    | none => simp [hc] at hj
    | some c0 => simp [hc] at hj; subst hj; exact ih j c0 y hc hy
  | tup cs ys hl _ ih =>
    simp only [AV.dk, AV.dkL_eq]
    refine .tup _ ys (by simpa using hl) fun j c y hj hy => ?_
    rw [List.getElem?_map] at hj
    cases hc : cs[j]? with
    | none => simp [hc] at hj
    | some c0 => simp [hc] at hj; subst hj; exact ih j c0 y hc hy
  | clo g cs ys hl _ ih =>
    simp only [AV.dk, AV.dkL_eq]
    refine .clo g _ ys (by simpa using hl) fun j c y hj hy => ?_
    rw [List.getElem?_map] at hj
    cases hc : cs[j]? with
    | none => simp [hc] at hj
    | some c0 => simp [hc] at hj; subst hj; exact ih j c0 y hc hy
  | ownNil i sz hr => simp only [AV.dk]; split; exact .im _ _ (.any _); exact .ownNil i sz hr
  | own i sz n b cap cur e hr hn hcap hb hsz hz => simp only [AV.dk]; split; exact .im _ _ (.any _); exact .own i sz n b cap cur e hr hn hcap hb hsz hz
  | ownAt i sz k n b cap a hi hr hn ha hz => simp only [AV.dk]; split; exact .im _ _ (.any _); exact .ownAt i sz k n b cap a hi hr hn ha hz
  | ptr i sz k j b hr hz => simp only [AV.dk]; split; exact .im _ _ (.any _); exact .ptr i sz k j b hr hz
  | mref i b hr => simp only [AV.dk]; split; exact .im _ _ (.any _); exact .mref i b hr

theorem Rep.kill {w : World} {ρ : Nat → Option Nat} {Im : Nat → Prop} (p : Nat → Bool) {a : AV} {y : Value} (h : Rep w ρ Im a y) : Rep w ρ Im (a.kill p) y := by
  unfold AV.kill; split
  · exact h.dk p
  · exact h

theorem AV.dk_cells (p : Nat → Bool) (e : AV) : (AV.dk p e).cells = e.cells.map (AV.dk p) := by
  cases e with
  | own a s i n => simp only [AV.dk, AV.cells, List.map_cons, List.map_nil]; by_cases h : p a = true <;> simp [h]
  | ptr a s i n => simp only [AV.dk, AV.cells, List.map_cons, List.map_nil]; by_cases h : p a = true <;> simp [h]
  | mref a => simp only [AV.dk, AV.cells, List.map_cons, List.map_nil]; by_cases h : p a = true <;> simp [h]
  | _ => simp [AV.dk, AV.cells, AV.dkL_eq]

theorem Blk.kill_sz (p : Nat → Bool) (k : Blk) : (k.kill p).sz = k.sz ∧ (k.kill p).e = k.e ∧ (k.kill p).es.length = k.es.length := by
  unfold Blk.kill; split <;> simp [AV.dkL_eq]

theorem Blk.kill_get (p : Nat → Bool) (k : Blk) {i j : Nat} {e c : AV} (he : (k.kill p).es[i]? = some e) (hc : e.cells[j]? = some c) :
    ∃ e0 c0, k.es[i]? = some e0 ∧ e0.cells[j]? = some c0 ∧ (c = c0 ∨ c = AV.dk p c0) ∧ ∀ id', Names c id' → Names c0 id' ∧ p id' = false := by
  unfold Blk.kill at he
  split at he
  · simp only [AV.dkL_eq, List.getElem?_map] at he
    cases h0 : k.es[i]? with
    | none => simp [h0] at he
    | some e0 =>
      simp [h0] at he; subst he
      rw [AV.dk_cells, List.getElem?_map] at hc
      cases h1 : e0.cells[j]? with
      | none => simp [h1] at hc
      | some c0 => simp [h1] at hc; subst hc; exact ⟨e0, c0, rfl, h1, .inr rfl, AV.dk_names p c0⟩
  · rename_i hn
    refine ⟨e, c, he, hc, .inl rfl, fun id' h => ⟨h, ?_⟩⟩
    cases hp : p id' with
    | false => rfl
    | true =>
    refine absurd ((AV.namesL_iff _ _).2 ⟨e, List.mem_of_getElem? he, ?_⟩) hn
    cases e with
    | agg cs => exact AV.namesB_of _ (.agg cs c id' (List.mem_of_getElem? hc) h) hp
    | _ => simp only [AV.cells, List.getElem?_singleton] at hc; split at hc <;> simp at hc; subst hc; exact AV.namesB_of _ h hp

theorem Blk.kill_len (p : Nat → Bool) (k : Blk) (h : ∀ e ∈ k.es, e.cells.length = k.sz) : ∀ e ∈ (k.kill p).es, e.cells.length = k.sz := by
  unfold Blk.kill; split
  · simp only [AV.dkL_eq, List.mem_map]
    rintro e ⟨e0, h0, rfl⟩
    rw [AV.dk_cells, List.length_map]; exact h e0 h0
  · exact h

def killR (p : Nat → Bool) (ρ : Nat → Option Nat) : Nat → Option Nat := fun t => if p t then none else ρ t

theorem killR_some {p : Nat → Bool} {ρ : Nat → Option Nat} {t b : Nat} (h : killR p ρ t = some b) : p t = false ∧ ρ t = some b := by
  unfold killR at h; split at h
  · cases h
  · exact ⟨by simp_all, h⟩

theorem killR_of {p : Nat → Bool} (ρ : Nat → Option Nat) {t : Nat} (h : p t = false) : killR p ρ t = ρ t := by simp [killR, h]

theorem Rep.killR {w : World} {ρ : Nat → Option Nat} {Im : Nat → Prop} {p : Nat → Bool} {a : AV} {y : Value} (h : Rep w ρ Im a y) (hn : ∀ id, Names a id → p id = false) : Rep w (killR p ρ) Im a y :=
  h.mono (fun _ h => h) (fun _ _ => rfl) fun id hid => ⟨killR_of ρ (hn id hid), fun _ _ cur _ hb => ⟨cur, hb, rfl⟩⟩

/-- Forgetting blocks. -/
theorem Inv.kill {w : World} {ρ : Nat → Option Nat} {Im : Nat → Prop} {σ : Store} (p : Nat → Bool) (h : Inv w ρ Im σ) : Inv w (killR p ρ) Im (killS p σ) where
  nil := fun i k hk hr => by
    simp only [killS] at hk
    split at hk
    · cases hk
    · rename_i hp
      simp only [Option.map_eq_some_iff] at hk
      obtain ⟨k0, h0, rfl⟩ := hk
      rw [killR_of ρ (by simpa using hp)] at hr
      have := h.nil i k0 h0 hr
      have hl := (Blk.kill_sz p k0).2.2
      rw [this] at hl
      exact List.eq_nil_of_length_eq_zero (by simpa using hl)
  map := fun i k b hk hr hz => by
    obtain ⟨hp, hr⟩ := killR_some hr
    simp only [killS, hp, Bool.false_eq_true, if_false, Option.map_eq_some_iff] at hk
    obtain ⟨k0, h0, rfl⟩ := hk
    obtain ⟨q1, q2, q3⟩ := Blk.kill_sz p k0
    obtain ⟨ents, clk, hb, hl, hc⟩ := h.map i k0 b h0 hr (by rw [← q1]; exact hz)
    refine ⟨ents, clk, hb, by rw [q3]; exact hl, fun j m hm => ?_⟩
    obtain ⟨v, hv, hrv⟩ := hc j m hm
    unfold Blk.kill
    split
    · refine ⟨AV.dk p v, ?_, Rep.killR (hrv.dk p) fun id hid => (AV.dk_names p v id hid).2⟩
      simp only [AV.dkL_eq, List.getElem?_map, hv, Option.map_some, AV.dk, List.map_cons, List.map_nil]
    · rename_i hn
      refine ⟨v, hv, Rep.killR hrv fun id hid => ?_⟩
      cases hpp : p id with
      | false => rfl
      | true => exact absurd ((AV.namesL_iff _ _).2 ⟨_, List.mem_of_getElem? hv, AV.namesB_of p (.tup _ v id (by simp) hid) hpp⟩) hn
  blk := fun i k b hk hr hz => by
    obtain ⟨hp, hr⟩ := killR_some hr
    simp only [killS, hp, Bool.false_eq_true, if_false, Option.map_eq_some_iff] at hk
    obtain ⟨k0, h0, rfl⟩ := hk
    obtain ⟨q1, q2, q3⟩ := Blk.kill_sz p k0
    obtain ⟨cur, hb, hl, hs, hc⟩ := h.blk i k0 b h0 hr (by rw [← q1]; exact hz)
    refine ⟨cur, by rw [q2]; exact hb, by rw [q1]; exact Blk.kill_len p k0 hl, by rw [q1, q3]; exact hs, fun i' e j c he hcc => ?_⟩
    obtain ⟨e0, c0, he0, hc0, hor, hnn⟩ := Blk.kill_get p k0 he hcc
    obtain ⟨x, hx, h1, hr'⟩ := hc i' e0 j c0 he0 hc0
    rw [q1]
    refine ⟨x, hx, h1, Rep.killR ?_ fun id hid => (hnn id hid).2⟩
    rcases hor with rfl | rfl
    · exact hr'
    · exact hr'.dk p
  inj := fun i j b h1 h2 => h.inj i j b (killR_some h1).2 (killR_some h2).2
  live := fun i b hr hs => by
    obtain ⟨hp, hr⟩ := killR_some hr
    simp only [killS, hp, Bool.false_eq_true, if_false, Option.map_eq_none_iff] at hs
    exact h.live i b hr hs
  apart := fun i b hr => h.apart i b (killR_some hr).2
  low := h.low

theorem EnvRep.kill {w : World} {ρ : Nat → Option Nat} {Im : Nat → Prop} {E : Env} {tm : Array Value} (p : Nat → Bool) (h : EnvRep w ρ Im E tm) : EnvRep w (killR p ρ) Im (killE p E) tm :=
  fun t y hy => Rep.killR ((h t y hy).kill p) fun id hid => (AV.kill_names p (E t) id hid).2

end Go.Vai

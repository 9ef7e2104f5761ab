/- A heap-free account of the walk, first part -/
import Derived.WalkKit
import Derived.OrdersIn
import Derived.Laws.AppendOwn
import Derived.RangeFuncRecord
import Derived.Below
import Derived.Lib.AppendStr
import Derived.Laws.BytesArg
import Derived.Laws.IdiomStrings
import Derived.LaidEqlPtr
import Derived.Lib.Builder
import Derived.Laws.Slices
import Derived.Laws.Pointers
import Derived.Laws.Unary
import Derived.Laws.IdiomCopy
import Derived.Laws.StructEq
import Derived.Laws.MakeOwn
set_option linter.unusedVariables false
set_option linter.unusedSimpArgs false
namespace Go.Vai
inductive AV where
  | any
  | v (x : Value)
  | agg (cs : List AV)
  | sl (sz : Nat) (es : List AV)
  | pt (e : AV) (j : Nat)
  | own (id sz i n : Nat)
  | ptr (id sz i j : Nat)
  | new (e sz : Nat) (es : List AV)
  | nptr (e sz : Nat) (es : List AV)
  | yld (l : Nat)
  | tup (vs : List AV)
  | clo (f : Nat) (caps : List AV)
  | mp (es : List AV)
  | mref (id : Nat)
  | cut (sz : Nat) (es : List AV)
def bI (s : ByteArray) : List Int := s.data.toList.map fun c => (c.toNat : Int)
abbrev Y (n : Int) : AV := .v (.int .u8 n)
def mkF (g : Nat) : List Value → Value
  | .tuple _ :: ys => .func (.func g) ys.toArray #[]
  | ys => .func (.func g) #[] ys.toArray
theorem mkF_func (g : Nat) (ys : List Value) : ∃ a b, mkF g ys = .func (.func g) a b := by unfold mkF; split <;> exact ⟨_, _, rfl⟩
def headOK : List AV → Bool
  | .any :: _ => false
  | .tup _ :: _ => false
  | .v x :: _ => x.oneCell'
  | _ => true
def AV.cells : AV → List AV
  | .agg cs => cs
  | a => [a]
def AV.atom : AV → Bool
  | .v x => x.oneCell'
  | .sl .. | .pt .. | .own .. | .ptr .. | .clo .. | .mp .. | .mref .. => true
  | _ => false
@[simp] theorem AV.cells_agg (cs : List AV) : (AV.agg cs).cells = cs := rfl
@[simp] theorem AV.cells_v (x : Value) : (AV.v x).cells = [.v x] := rfl
@[simp] theorem AV.cells_sl (s : Nat) (es : List AV) : (AV.sl s es).cells = [.sl s es] := rfl
@[simp] theorem AV.cells_own (a b c d : Nat) : (AV.own a b c d).cells = [.own a b c d] := rfl
@[simp] theorem AV.cells_ptr (a b c d : Nat) : (AV.ptr a b c d).cells = [.ptr a b c d] := rfl
@[simp] theorem AV.cells_pt (e : AV) (j : Nat) : (AV.pt e j).cells = [.pt e j] := rfl
@[simp] theorem AV.cells_clo (f : Nat) (cs : List AV) : (AV.clo f cs).cells = [.clo f cs] := rfl
@[simp] theorem AV.cells_any : AV.any.cells = [.any] := rfl
@[simp] theorem AV.cells_mp (es : List AV) : (AV.mp es).cells = [.mp es] := rfl
@[simp] theorem AV.cells_cut (s : Nat) (es : List AV) : (AV.cut s es).cells = [.cut s es] := rfl
@[simp] theorem AV.cells_mref (id : Nat) : (AV.mref id).cells = [.mref id] := rfl
def Bn (ents : Array MapEntry) (clk : Nat) : Prop := (ents.toList.map (·.born)).Nodup ∧ ∀ e ∈ ents.toList, e.born < clk
inductive IRep (w : World) (Im : Nat → Prop) : AV → Value → Prop
  | any (y : Value) : IRep w Im .any y
  | v (x : Value) : IRep w Im (.v x) x
  | agg (cs : List AV) (ys : List Value) (hl : cs.length = ys.length) (h1 : ∀ y ∈ ys, y.oneCell' = true)
      (h : ∀ (j : Nat) (c : AV) (y : Value), cs[j]? = some c → ys[j]? = some y → IRep w Im c y) : IRep w Im (.agg cs) (.agg ys.toArray)
  | slnil (sz : Nat) (a : Option Addr) (cap : Nat) : IRep w Im (.sl sz []) (.slice a 0 cap)
  | sl (sz : Nat) (es : List AV) (b o cap : Nat) (f : Nat → Nat → Value) (hIm : Im b) (hcap : es.length ≤ cap) (hsz : ∀ e ∈ es, e.cells.length = sz)
      (hc : ∀ i j, i < es.length → j < sz → w.cell? ⟨b, o + i * sz + j, none⟩ = some (f i j) ∧ (f i j).oneCell' = true)
      (h : ∀ (i : Nat) (e : AV) (j : Nat) (c : AV), es[i]? = some e → e.cells[j]? = some c → IRep w Im c (f i j)) :
      IRep w Im (.sl sz es) (.slice (some ⟨b, o, none⟩) es.length cap)
  | pt (e : AV) (j b o : Nat) (f : Nat → Value) (hIm : Im b)
      (hc : ∀ i, i < e.cells.length → w.cell? ⟨b, o + i, none⟩ = some (f i) ∧ (f i).oneCell' = true)
      (h : ∀ (i : Nat) (c : AV), e.cells[i]? = some c → IRep w Im c (f i)) : IRep w Im (.pt e j) (.pointer (some ⟨b, o + j, none⟩))
  | tup (vs : List AV) (ys : List Value) (hl : vs.length = ys.length)
      (h : ∀ (j : Nat) (c : AV) (y : Value), vs[j]? = some c → ys[j]? = some y → IRep w Im c y) : IRep w Im (.tup vs) (.tuple ys.toArray)
  | clo (g : Nat) (caps : List AV) (ys : List Value) (hl : caps.length = ys.length)
      (h : ∀ (j : Nat) (c : AV) (y : Value), caps[j]? = some c → ys[j]? = some y → IRep w Im c y) : IRep w Im (.clo g caps) (mkF g ys)
  | yld (l : Nat) : IRep w Im (.yld l) (.func (.yield l) #[] #[])
  | mpnil : IRep w Im (.mp []) (.map none)
  | mp (es : List AV) (b : Nat) (ents : Array MapEntry) (clk : Nat) (f : Nat → AV) (hIm : Im b) (hb : w.heap[b]? = some (.map ents clk)) (hl : es.length = ents.size ∧ Bn ents clk)
      (hes : ∀ (i : Nat) (m : MapEntry), ents[i]? = some m → es[i]? = some (.tup [.v m.key, f i]))
      (h : ∀ (i : Nat) (m : MapEntry), ents[i]? = some m → IRep w Im (f i) m.val) : IRep w Im (.mp es) (.map (some b))
  | cut (sz : Nat) (es : List AV) (a : Option Addr) (h : IRep w Im (.sl sz es) (.slice a es.length es.length)) : IRep w Im (.cut sz es) (.slice a es.length es.length)
theorem IRep.mono {w w' : World} {Im Im' : Nat → Prop} (hI : ∀ b, Im b → Im' b) (hb : ∀ b, Im b → w'.heap[b]? = w.heap[b]?)
    {a : AV} {y : Value} (h : IRep w Im a y) : IRep w' Im' a y := by
  have hc : ∀ b o, Im b → w'.cell? ⟨b, o, none⟩ = w.cell? ⟨b, o, none⟩ := fun b o h => World.cell?_of_block (hb b h)
  induction h with
  | any y => exact .any y
  | v x => exact .v x
  | agg cs ys hl h1 _ ih => exact .agg cs ys hl h1 ih
  | slnil sz a cap => exact .slnil sz a cap
  | sl sz es b o cap f hIm hcap hsz hcc _ ih => exact .sl sz es b o cap f (hI b hIm) hcap hsz (fun i j hi hj => by rw [hc _ _ hIm]; exact hcc i j hi hj) ih
  | pt e j b o f hIm hcc _ ih => exact .pt e j b o f (hI b hIm) (fun i hi => by rw [hc _ _ hIm]; exact hcc i hi) ih
  | tup vs ys hl _ ih => exact .tup vs ys hl ih
  | clo g caps ys hl _ ih => exact .clo g caps ys hl ih
  | yld l => exact .yld l
  | mpnil => exact .mpnil
  | mp es b ents clk f hIm hbb hl hes _ ih => exact .mp es b ents clk f (hI b hIm) (by rw [hb b hIm]; exact hbb) hl hes ih
  | cut sz es a _ ih => exact .cut sz es a ih
structure Blk where
  e : TypeId
  sz : Nat
  es : List AV
abbrev Store := Nat → Option Blk
abbrev Env := Nat → AV
def Mk (fr : Nat × Nat) (n : Nat) : Prop := fr = (0, 0) ∨ fr = (n, n + 1)
theorem cells_lt {w : World} {b n : Nat} {cur : Array Value} {e : TypeId} (h : ∃ fr, w.heap[b]? = some (.cells cur e fr) ∧ Mk fr n) : b < w.heap.size := by
  obtain ⟨_, h, _⟩ := h; exact (Array.getElem?_eq_some_iff.1 h).1
theorem cells_at {w : World} {b n : Nat} {cur : Array Value} {e : TypeId} (h : ∃ fr, w.heap[b]? = some (.cells cur e fr) ∧ Mk fr n) (o : Nat) : w.cell? ⟨b, o, none⟩ = cur[o]? := by
  obtain ⟨_, h, _⟩ := h; simp [World.cell?, h]
theorem cells_of {w : World} {b : Nat} {cur : Array Value} {e : TypeId} (h : w.heap[b]? = some (.cells cur e (0, 0))) : ∃ fr, w.heap[b]? = some (.cells cur e fr) ∧ Mk fr cur.size := ⟨_, h, .inl rfl⟩
theorem cells_uniq {w : World} {b n m : Nat} {cur cur' : Array Value} {e e' : TypeId} (h : ∃ fr, w.heap[b]? = some (.cells cur e fr) ∧ Mk fr n) (h' : ∃ fr, w.heap[b]? = some (.cells cur' e' fr) ∧ Mk fr m) : cur = cur' ∧ e = e' := by
  obtain ⟨_, h, _⟩ := h; obtain ⟨_, h', _⟩ := h'; rw [h] at h'; cases h'; exact ⟨rfl, rfl⟩
inductive Rep (w : World) (ρ : Nat → Option Nat) (Im : Nat → Prop) : AV → Value → Prop
  | im (a : AV) (y : Value) (h : IRep w Im a y) : Rep w ρ Im a y
  | agg (cs : List AV) (ys : List Value) (hl : cs.length = ys.length) (h1 : ∀ y ∈ ys, y.oneCell' = true)
      (h : ∀ (j : Nat) (c : AV) (y : Value), cs[j]? = some c → ys[j]? = some y → Rep w ρ Im c y) : Rep w ρ Im (.agg cs) (.agg ys.toArray)
  | tup (vs : List AV) (ys : List Value) (hl : vs.length = ys.length)
      (h : ∀ (j : Nat) (c : AV) (y : Value), vs[j]? = some c → ys[j]? = some y → Rep w ρ Im c y) : Rep w ρ Im (.tup vs) (.tuple ys.toArray)
  | clo (g : Nat) (caps : List AV) (ys : List Value) (hl : caps.length = ys.length)
      (h : ∀ (j : Nat) (c : AV) (y : Value), caps[j]? = some c → ys[j]? = some y → Rep w ρ Im c y) : Rep w ρ Im (.clo g caps) (mkF g ys)
  | ownNil (id sz : Nat) (hρ : ρ id = none) : Rep w ρ Im (.own id sz 0 0) (.slice none 0 0)
  | own (id sz n b cap : Nat) (cur : Array Value) (e : TypeId) (hρ : ρ id = some b) (hn : n ≤ cap) (hcap : cap ≤ maxLen) (hb : (∃ fr, w.heap[b]? = some (.cells cur e fr) ∧ Mk fr cur.size)) (hsz : cur.size = cap * sz) (hz : sz ≠ 0) :
      Rep w ρ Im (.own id sz 0 n) (.slice (some ⟨b, 0, none⟩) n cap)
  | ownAt (id sz i n b cap : Nat) (a : Option Addr) (hi : 0 < i) (hρ : ρ id = some b) (hn : n ≤ cap) (ha : n ≠ 0 → a = some ⟨b, i * sz, none⟩) (hz : sz ≠ 0) : Rep w ρ Im (.own id sz i n) (.slice a n cap)
  | ptr (id sz i j b : Nat) (hρ : ρ id = some b) (hz : sz ≠ 0) : Rep w ρ Im (.ptr id sz i j) (.pointer (some ⟨b, i * sz + j, none⟩))
  | mref (id b : Nat) (hρ : ρ id = some b) : Rep w ρ Im (.mref id) (.map (some b))
inductive Names : AV → Nat → Prop
  | own (id sz i n : Nat) : Names (.own id sz i n) id
  | ptr (id sz i j : Nat) : Names (.ptr id sz i j) id
  | mref (id : Nat) : Names (.mref id) id
  | agg (cs : List AV) (c : AV) (id : Nat) (hc : c ∈ cs) (h : Names c id) : Names (.agg cs) id
  | tup (cs : List AV) (c : AV) (id : Nat) (hc : c ∈ cs) (h : Names c id) : Names (.tup cs) id
  | clo (g : Nat) (cs : List AV) (c : AV) (id : Nat) (hc : c ∈ cs) (h : Names c id) : Names (.clo g cs) id
def Shape (w w' : World) (b : Nat) : Prop := ∀ cur e, (∃ fr, w.heap[b]? = some (.cells cur e fr) ∧ Mk fr cur.size) → ∃ cur', (∃ fr, w'.heap[b]? = some (.cells cur' e fr) ∧ Mk fr cur'.size) ∧ cur'.size = cur.size
theorem Rep.mono {w w' : World} {ρ ρ' : Nat → Option Nat} {Im Im' : Nat → Prop} (hI : ∀ b, Im b → Im' b) (hc : ∀ b, Im b → w'.heap[b]? = w.heap[b]?)
    {a : AV} {y : Value} (h : Rep w ρ Im a y) (hρ : ∀ id, Names a id → ρ' id = ρ id ∧ ∀ b, ρ id = some b → Shape w w' b) : Rep w' ρ' Im' a y := by
  induction h with
  | im a y h => exact .im a y (h.mono hI hc)
  | agg cs ys hl h1 _ ih => exact .agg cs ys hl h1 fun j c y hj hy => ih j c y hj hy fun id hn => hρ id (.agg cs c id (List.mem_of_getElem? hj) hn)
  | tup cs ys hl _ ih => exact .tup cs ys hl fun j c y hj hy => ih j c y hj hy fun id hn => hρ id (.tup cs c id (List.mem_of_getElem? hj) hn)
  | clo g cs ys hl _ ih => exact .clo g cs ys hl fun j c y hj hy => ih j c y hj hy fun id hn => hρ id (.clo g cs c id (List.mem_of_getElem? hj) hn)
  | ownNil id sz h => exact .ownNil id sz (by rw [(hρ id (.own ..)).1]; exact h)
  | own id sz n b cap cur e hr hn hcap hb hsz hz =>
    obtain ⟨h1, h2⟩ := hρ id (.own ..)
    obtain ⟨cur', h3, h4⟩ := h2 b hr cur e hb
    exact .own id sz n b cap cur' e (by rw [h1]; exact hr) hn hcap h3 (by rw [h4]; exact hsz) hz
  | ownAt id sz i n b cap a hi hr hn ha hz => exact .ownAt id sz i n b cap a hi (by rw [(hρ id (.own ..)).1]; exact hr) hn ha hz
  | ptr id sz i j b hr hz => exact .ptr id sz i j b (by rw [(hρ id (.ptr ..)).1]; exact hr) hz
  | mref id b hr => exact .mref id b (by rw [(hρ id (.mref ..)).1]; exact hr)
def MapOK (w : World) (ρ : Nat → Option Nat) (Im : Nat → Prop) (es : List AV) (b : Nat) : Prop :=
  ∃ ents clk, w.heap[b]? = some (.map ents clk) ∧ (es.length = ents.size ∧ Bn ents clk) ∧
    ∀ (i : Nat) (m : MapEntry), ents[i]? = some m → ∃ v, es[i]? = some (.tup [.v m.key, v]) ∧ Rep w ρ Im v m.val
structure Inv (w : World) (ρ : Nat → Option Nat) (Im : Nat → Prop) (σ : Store) : Prop where
  nil : ∀ id k, σ id = some k → ρ id = none → k.es = []
  map : ∀ id k b, σ id = some k → ρ id = some b → k.sz = 0 → MapOK w ρ Im k.es b
  blk : ∀ id k b, σ id = some k → ρ id = some b → k.sz ≠ 0 → ∃ cur, (∃ fr, w.heap[b]? = some (.cells cur k.e fr) ∧ Mk fr cur.size) ∧ (∀ e ∈ k.es, e.cells.length = k.sz) ∧ k.es.length * k.sz ≤ cur.size ∧
    (∀ (i : Nat) (e : AV) (j : Nat) (c : AV), k.es[i]? = some e → e.cells[j]? = some c → ∃ x, cur[i * k.sz + j]? = some x ∧ x.oneCell' = true ∧ Rep w ρ Im c x)
  inj : ∀ id id' b, ρ id = some b → ρ id' = some b → id = id'
  live : ∀ id b, ρ id = some b → σ id ≠ none
  apart : ∀ id b, ρ id = some b → ¬ Im b
  low : ∀ b, Im b → b < w.heap.size
theorem Inv.lt {w : World} {ρ : Nat → Option Nat} {Im : Nat → Prop} {σ : Store} (h : Inv w ρ Im σ) {id b : Nat} (hr : ρ id = some b) : b < w.heap.size := by
  cases hs : σ id with
  | none => exact absurd hs (h.live id b hr)
  | some k =>
    by_cases h0 : k.sz = 0
    · obtain ⟨cur, clk, hb, _⟩ := h.map id k b hs hr h0
      exact (Array.getElem?_eq_some_iff.1 hb).1
    · obtain ⟨cur, hb, _⟩ := h.blk id k b hs hr h0
      exact cells_lt hb
structure Ext (w : World) (X : Nat → Prop) (w' : World) : Prop where
  os : w'.os = w.os
  tape : w'.tape = w.tape
  output : w'.output = w.output
  size : w.heap.size ≤ w'.heap.size
  block : ∀ k, k < w.heap.size → ¬ X k → w'.heap[k]? = w.heap[k]?
theorem Ext.refl (w : World) (X : Nat → Prop) : Ext w X w := ⟨rfl, rfl, rfl, Nat.le_refl _, fun _ _ _ => rfl⟩
theorem Ext.trans {w w1 w2 : World} {X Y : Nat → Prop} (h : Ext w X w1) (k : Ext w1 Y w2) (hY : ∀ b, Y b → X b ∨ w.heap.size ≤ b) : Ext w X w2 :=
  ⟨k.os.trans h.os, k.tape.trans h.tape, k.output.trans h.output, Nat.le_trans h.size k.size,
   fun b hb hn => (k.block b (Nat.lt_of_lt_of_le hb h.size) (fun hy => by rcases hY b hy with h1 | h1; exact hn h1; omega)).trans (h.block b hb hn)⟩
theorem Ext.mono {w w' : World} {X Y : Nat → Prop} (h : Ext w X w') (hXY : ∀ b, b < w.heap.size → X b → Y b) : Ext w Y w' :=
  ⟨h.os, h.tape, h.output, h.size, fun b hb hn => h.block b hb fun hx => hn (hXY b hb hx)⟩
theorem Ext.cell {w w' : World} {X : Nat → Prop} (h : Ext w X w') {b o : Nat} (hb : b < w.heap.size) (hn : ¬ X b) : w'.cell? ⟨b, o, none⟩ = w.cell? ⟨b, o, none⟩ :=
  World.cell?_of_block (h.block b hb hn)
theorem Ext.below {w w' : World} (h : Ext w (fun _ => False) w') : RowKit.Below w.heap.size w w' := ⟨h.os, h.tape, h.output, h.size, fun k hk => h.block k hk (fun h => h)⟩
def EnvRep (w : World) (ρ : Nat → Option Nat) (Im : Nat → Prop) (E : Env) (tm : Array Value) : Prop := ∀ (t : Nat) (y : Value), tm[t]? = some y → Rep w ρ Im (E t) y
theorem Ext.alloc (w : World) (X : Nat → Prop) (o : Obj) : Ext w X (w.alloc o) := ⟨rfl, rfl, rfl, by simp, fun k hk _ => RowKit.Below.heap_alloc w o k hk⟩
def upd (E : Env) (d : Nat) (a : AV) : Env := fun t => if t = d then a else E t
@[simp] theorem upd_same (E : Env) (d : Nat) (a : AV) : upd E d a d = a := by simp [upd]
theorem upd_ne (E : Env) (d : Nat) (a : AV) (t : Nat) (h : t ≠ d) : upd E d a t = E t := by simp [upd, h]
theorem upd_comm (E : Env) (d d' : Nat) (a a' : AV) (h : d ≠ d') : upd (upd E d a) d' a' = upd (upd E d' a') d a := by
  funext t; simp only [upd]; split <;> split <;> simp_all
theorem upd_self (E : Env) (d : Nat) (a : AV) (h : E d = a) : upd E d a = E := by
  funext t; simp only [upd]; split <;> simp_all
def updS (σ : Store) (d : Nat) (k : Blk) : Store := fun t => if t = d then some k else σ t
@[simp] theorem updS_same (σ : Store) (d : Nat) (k : Blk) : updS σ d k d = some k := by simp [updS]
theorem updS_ne (σ : Store) (d : Nat) (k : Blk) (t : Nat) (h : t ≠ d) : updS σ d k t = σ t := by simp [updS, h]
mutual
def AV.namesB (p : Nat → Bool) : AV → Bool
  | .own a _ _ _ => p a
  | .ptr a _ _ _ => p a
  | .mref a => p a
  | .agg cs => AV.namesL p cs
  | .tup cs => AV.namesL p cs
  | .clo _ cs => AV.namesL p cs
  | _ => false
def AV.namesL (p : Nat → Bool) : List AV → Bool
  | [] => false
  | c :: cs => AV.namesB p c || AV.namesL p cs
end
mutual
def AV.dk (p : Nat → Bool) : AV → AV
  | .own a s i n => if p a then .any else .own a s i n
  | .ptr a s i j => if p a then .any else .ptr a s i j
  | .mref a => if p a then .any else .mref a
  | .agg cs => .agg (AV.dkL p cs)
  | .tup cs => .tup (AV.dkL p cs)
  | .clo g cs => .clo g (AV.dkL p cs)
  | a => a
def AV.dkL (p : Nat → Bool) : List AV → List AV
  | [] => []
  | c :: cs => AV.dk p c :: AV.dkL p cs
end
theorem AV.namesL_iff (p : Nat → Bool) (cs : List AV) : AV.namesL p cs = true ↔ ∃ c ∈ cs, AV.namesB p c = true := by
  induction cs with
  | nil => simp [AV.namesL]
  | cons c cs ih => simp [AV.namesL, ih]
theorem AV.namesB_of (p : Nat → Bool) {a : AV} {id : Nat} (h : Names a id) (hp : p id = true) : AV.namesB p a = true := by
  induction h with
  | own id sz i n => simpa [AV.namesB] using hp
  | ptr id sz i j => simpa [AV.namesB] using hp
  | mref id => simpa [AV.namesB] using hp
  | agg cs c id hc _ ih => simp only [AV.namesB]; exact (AV.namesL_iff p cs).2 ⟨c, hc, ih hp⟩
  | tup cs c id hc _ ih => simp only [AV.namesB]; exact (AV.namesL_iff p cs).2 ⟨c, hc, ih hp⟩
  | clo g cs c id hc _ ih => simp only [AV.namesB]; exact (AV.namesL_iff p cs).2 ⟨c, hc, ih hp⟩
theorem AV.dkL_eq (p : Nat → Bool) (cs : List AV) : AV.dkL p cs = cs.map (AV.dk p) := by
  induction cs with
  | nil => rfl
  | cons c cs ih => simp [AV.dkL, ih]
def AV.kill (p : Nat → Bool) (a : AV) : AV := if AV.namesB p a then AV.dk p a else a
def Blk.kill (p : Nat → Bool) (k : Blk) : Blk := if AV.namesL p k.es then { k with es := AV.dkL p k.es } else k
def killE (p : Nat → Bool) (E : Env) : Env := fun t => (E t).kill p
def killS (p : Nat → Bool) (σ : Store) : Store := fun t => if p t then none else (σ t).map (Blk.kill p)
mutual
theorem AV.dk_names (p : Nat → Bool) : ∀ (a : AV) (id' : Nat), Names (AV.dk p a) id' → Names a id' ∧ p id' = false
  | .own a s i n, id', h => by
    simp only [AV.dk] at h; split at h
    · cases h
    · cases h; exact ⟨.own .., by simp_all⟩
  | .ptr a s i n, id', h => by
    simp only [AV.dk] at h; split at h
    · cases h
    · cases h; exact ⟨.ptr .., by simp_all⟩
  | .mref a, id', h => by
    simp only [AV.dk] at h; split at h
    · cases h
    · cases h; exact ⟨.mref .., by simp_all⟩
  | .agg cs, id', h => by
    simp only [AV.dk] at h
    cases h with
    | agg _ c _ hc h => obtain ⟨c0, h0, h1, h2⟩ := AV.dkL_names p cs id' c hc h; exact ⟨.agg cs c0 id' h0 h1, h2⟩
  | .tup cs, id', h => by
    simp only [AV.dk] at h
    cases h with
    | tup _ c _ hc h => obtain ⟨c0, h0, h1, h2⟩ := AV.dkL_names p cs id' c hc h; exact ⟨.tup cs c0 id' h0 h1, h2⟩
  | .clo g cs, id', h => by
    simp only [AV.dk] at h
    cases h with
    | clo _ _ c _ hc h => obtain ⟨c0, h0, h1, h2⟩ := AV.dkL_names p cs id' c hc h; exact ⟨.clo g cs c0 id' h0 h1, h2⟩
  | .any, id', h => by simp only [AV.dk] at h; cases h
  | .v x, id', h => by simp only [AV.dk] at h; cases h
  | .sl s es, id', h => by simp only [AV.dk] at h; cases h
  | .pt e j, id', h => by simp only [AV.dk] at h; cases h
  | .new e s es, id', h => by simp only [AV.dk] at h; cases h
  | .nptr e s es, id', h => by simp only [AV.dk] at h; cases h
  | .yld l, id', h => by simp only [AV.dk] at h; cases h
  | .mp es, id', h => by simp only [AV.dk] at h; cases h
  | .cut s es, id', h => by simp only [AV.dk] at h; cases h
theorem AV.dkL_names (p : Nat → Bool) : ∀ (cs : List AV) (id' : Nat) (c : AV), c ∈ AV.dkL p cs → Names c id' → ∃ c0 ∈ cs, Names c0 id' ∧ p id' = false
  | [], id', c, hc, _ => by simp [AV.dkL] at hc
  | x :: cs, id', c, hc, h => by
    simp only [AV.dkL, List.mem_cons] at hc
    rcases hc with rfl | hc
    · obtain ⟨h1, h2⟩ := AV.dk_names p x id' h; exact ⟨x, by simp, h1, h2⟩
    · obtain ⟨c0, h0, h1⟩ := AV.dkL_names p cs id' c hc h; exact ⟨c0, by simp [h0], h1⟩
end
theorem AV.kill_names (p : Nat → Bool) (a : AV) (id' : Nat) (h : Names (a.kill p) id') : Names a id' ∧ p id' = false := by
  unfold AV.kill at h
  split at h
  · exact AV.dk_names p a id' h
  · rename_i hn
    refine ⟨h, ?_⟩
    cases hp : p id' with
    | false => rfl
    | true => exact absurd (AV.namesB_of p h hp) hn
theorem Rep.map {w : World} {ρ : Nat → Option Nat} {Im : Nat → Prop} (F : AV → AV) (h1 : ∀ cs, F (.agg cs) = .agg (cs.map F)) (h2 : ∀ cs, F (.tup cs) = .tup (cs.map F)) (h3 : ∀ g cs, F (.clo g cs) = .clo g (cs.map F))
    (h4 : ∀ a, (∀ cs, a ≠ .agg cs) → (∀ cs, a ≠ .tup cs) → (∀ g cs, a ≠ .clo g cs) → F a = a ∨ F a = .any) {a : AV} {y : Value} (h : Rep w ρ Im a y) : Rep w ρ Im (F a) y := by
  have get : ∀ {cs : List AV} {j : Nat} {c : AV}, (cs.map F)[j]? = some c → ∃ c0, cs[j]? = some c0 ∧ F c0 = c := fun hj => by simpa using hj
  have leafI : ∀ {a : AV} {y : Value}, IRep w Im a y → (∀ cs, a ≠ .agg cs) → (∀ cs, a ≠ .tup cs) → (∀ g cs, a ≠ .clo g cs) → IRep w Im (F a) y := fun h q1 q2 q3 => by
    rcases h4 _ q1 q2 q3 with e | e <;> rw [e]
    · exact h
    · exact .any _
  have leaf : ∀ {a : AV} {y : Value}, Rep w ρ Im a y → (∀ cs, a ≠ .agg cs) → (∀ cs, a ≠ .tup cs) → (∀ g cs, a ≠ .clo g cs) → Rep w ρ Im (F a) y := fun h q1 q2 q3 => by
    rcases h4 _ q1 q2 q3 with e | e <;> rw [e]
    · exact h
    · exact .im _ _ (.any _)
  have irep : ∀ {a : AV} {y : Value}, IRep w Im a y → IRep w Im (F a) y := by
    intro a y h
    have h' := h
    induction h with
    | agg cs ys hl g1 g2 ih =>
      rw [h1]
      refine .agg _ ys (by simpa using hl) g1 fun j c y hj hy => ?_
      obtain ⟨c0, hc, rfl⟩ := get hj
      exact ih j c0 y hc hy (g2 j c0 y hc hy)
    | tup cs ys hl g2 ih =>
      rw [h2]
      refine .tup _ ys (by simpa using hl) fun j c y hj hy => ?_
      obtain ⟨c0, hc, rfl⟩ := get hj
      exact ih j c0 y hc hy (g2 j c0 y hc hy)
    | clo g cs ys hl g2 ih =>
      rw [h3]
      refine .clo g _ ys (by simpa using hl) fun j c y hj hy => ?_
      obtain ⟨c0, hc, rfl⟩ := get hj
      exact ih j c0 y hc hy (g2 j c0 y hc hy)
    | _ => exact leafI h' (fun _ e => by cases e) (fun _ e => by cases e) (fun _ _ e => by cases e)
  have h' := h
  induction h with
  | im a y h => exact .im _ _ (irep h)
  | agg cs ys hl g1 g2 ih =>
    rw [h1]
    refine .agg _ ys (by simpa using hl) g1 fun j c y hj hy => ?_
    obtain ⟨c0, hc, rfl⟩ := get hj
    exact ih j c0 y hc hy (g2 j c0 y hc hy)
  | tup cs ys hl g2 ih =>
    rw [h2]
    refine .tup _ ys (by simpa using hl) fun j c y hj hy => ?_
    obtain ⟨c0, hc, rfl⟩ := get hj
    exact ih j c0 y hc hy (g2 j c0 y hc hy)
  | clo g cs ys hl g2 ih =>
    rw [h3]
    refine .clo g _ ys (by simpa using hl) fun j c y hj hy => ?_
    obtain ⟨c0, hc, rfl⟩ := get hj
    exact ih j c0 y hc hy (g2 j c0 y hc hy)
  | _ => exact leaf h' (fun _ e => by cases e) (fun _ e => by cases e) (fun _ _ e => by cases e)
theorem Rep.dk {w : World} {ρ : Nat → Option Nat} {Im : Nat → Prop} (p : Nat → Bool) {a : AV} {y : Value} (h : Rep w ρ Im a y) : Rep w ρ Im (AV.dk p a) y :=
  h.map (AV.dk p) (fun cs => by rw [AV.dk, AV.dkL_eq]) (fun cs => by rw [AV.dk, AV.dkL_eq]) (fun g cs => by rw [AV.dk, AV.dkL_eq]) fun a h1 h2 h3 => by
    cases a <;> first | exact absurd rfl (h1 _) | exact absurd rfl (h2 _) | exact absurd rfl (h3 _ _) | exact .inl rfl | (simp only [AV.dk]; split <;> simp)
theorem Rep.kill {w : World} {ρ : Nat → Option Nat} {Im : Nat → Prop} (p : Nat → Bool) {a : AV} {y : Value} (h : Rep w ρ Im a y) : Rep w ρ Im (a.kill p) y := by
  unfold AV.kill; split
  · exact h.dk p
  · exact h
theorem AV.dk_cells (p : Nat → Bool) (e : AV) : (AV.dk p e).cells = e.cells.map (AV.dk p) := by
  cases e with
  | own a s i n => simp only [AV.dk, AV.cells, List.map_cons, List.map_nil]; by_cases h : p a = true <;> simp [h]
  | ptr a s i n => simp only [AV.dk, AV.cells, List.map_cons, List.map_nil]; by_cases h : p a = true <;> simp [h]
  | mref a => simp only [AV.dk, AV.cells, List.map_cons, List.map_nil]; by_cases h : p a = true <;> simp [h]
  | _ => simp [AV.dk, AV.cells, AV.dkL_eq]
theorem Blk.kill_sz (p : Nat → Bool) (k : Blk) : (k.kill p).sz = k.sz ∧ (k.kill p).e = k.e ∧ (k.kill p).es.length = k.es.length := by
  unfold Blk.kill; split <;> simp [AV.dkL_eq]
theorem Blk.kill_get (p : Nat → Bool) (k : Blk) {i j : Nat} {e c : AV} (he : (k.kill p).es[i]? = some e) (hc : e.cells[j]? = some c) :
    ∃ e0 c0, k.es[i]? = some e0 ∧ e0.cells[j]? = some c0 ∧ (c = c0 ∨ c = AV.dk p c0) ∧ ∀ id', Names c id' → Names c0 id' ∧ p id' = false := by
  unfold Blk.kill at he
  split at he
  · simp only [AV.dkL_eq, List.getElem?_map] at he
    cases h0 : k.es[i]? with
    | none => simp [h0] at he
    | some e0 =>
      simp [h0] at he; subst he
      rw [AV.dk_cells, List.getElem?_map] at hc
      cases h1 : e0.cells[j]? with
      | none => simp [h1] at hc
      | some c0 => simp [h1] at hc; subst hc; exact ⟨e0, c0, rfl, h1, .inr rfl, AV.dk_names p c0⟩
  · rename_i hn
    refine ⟨e, c, he, hc, .inl rfl, fun id' h => ⟨h, ?_⟩⟩
    cases hp : p id' with
    | false => rfl
    | true =>
    refine absurd ((AV.namesL_iff _ _).2 ⟨e, List.mem_of_getElem? he, ?_⟩) hn
    cases e with
    | agg cs => exact AV.namesB_of _ (.agg cs c id' (List.mem_of_getElem? hc) h) hp
    | _ => simp only [AV.cells, List.getElem?_singleton] at hc; split at hc <;> simp at hc; subst hc; exact AV.namesB_of _ h hp
theorem Blk.kill_len (p : Nat → Bool) (k : Blk) (h : ∀ e ∈ k.es, e.cells.length = k.sz) : ∀ e ∈ (k.kill p).es, e.cells.length = k.sz := by
  unfold Blk.kill; split
  · simp only [AV.dkL_eq, List.mem_map]
    rintro e ⟨e0, h0, rfl⟩
    rw [AV.dk_cells, List.length_map]; exact h e0 h0
  · exact h
def killR (p : Nat → Bool) (ρ : Nat → Option Nat) : Nat → Option Nat := fun t => if p t then none else ρ t
theorem killR_some {p : Nat → Bool} {ρ : Nat → Option Nat} {t b : Nat} (h : killR p ρ t = some b) : p t = false ∧ ρ t = some b := by
  unfold killR at h; split at h
  · cases h
  · exact ⟨by simp_all, h⟩
theorem killR_of {p : Nat → Bool} (ρ : Nat → Option Nat) {t : Nat} (h : p t = false) : killR p ρ t = ρ t := by simp [killR, h]
theorem Rep.killR {w : World} {ρ : Nat → Option Nat} {Im : Nat → Prop} {p : Nat → Bool} {a : AV} {y : Value} (h : Rep w ρ Im a y) (hn : ∀ id, Names a id → p id = false) : Rep w (killR p ρ) Im a y :=
  h.mono (fun _ h => h) (fun _ _ => rfl) fun id hid => ⟨killR_of ρ (hn id hid), fun _ _ cur _ hb => ⟨cur, hb, rfl⟩⟩
theorem Inv.kill {w : World} {ρ : Nat → Option Nat} {Im : Nat → Prop} {σ : Store} (p : Nat → Bool) (h : Inv w ρ Im σ) : Inv w (killR p ρ) Im (killS p σ) where
  nil := fun i k hk hr => by
    simp only [killS] at hk
    split at hk
    · cases hk
    · rename_i hp
      simp only [Option.map_eq_some_iff] at hk
      obtain ⟨k0, h0, rfl⟩ := hk
      rw [killR_of ρ (by simpa using hp)] at hr
      have := h.nil i k0 h0 hr
      have hl := (Blk.kill_sz p k0).2.2
      rw [this] at hl
      exact List.eq_nil_of_length_eq_zero (by simpa using hl)
  map := fun i k b hk hr hz => by
    obtain ⟨hp, hr⟩ := killR_some hr
    simp only [killS, hp, Bool.false_eq_true, if_false, Option.map_eq_some_iff] at hk
    obtain ⟨k0, h0, rfl⟩ := hk
    obtain ⟨q1, q2, q3⟩ := Blk.kill_sz p k0
    obtain ⟨ents, clk, hb, hl, hc⟩ := h.map i k0 b h0 hr (by rw [← q1]; exact hz)
    refine ⟨ents, clk, hb, by rw [q3]; exact hl, fun j m hm => ?_⟩
    obtain ⟨v, hv, hrv⟩ := hc j m hm
    unfold Blk.kill
    split
    · refine ⟨AV.dk p v, ?_, Rep.killR (hrv.dk p) fun id hid => (AV.dk_names p v id hid).2⟩
      simp only [AV.dkL_eq, List.getElem?_map, hv, Option.map_some, AV.dk, List.map_cons, List.map_nil]
    · rename_i hn
      refine ⟨v, hv, Rep.killR hrv fun id hid => ?_⟩
      cases hpp : p id with
      | false => rfl
      | true => exact absurd ((AV.namesL_iff _ _).2 ⟨_, List.mem_of_getElem? hv, AV.namesB_of p (.tup _ v id (by simp) hid) hpp⟩) hn
  blk := fun i k b hk hr hz => by
    obtain ⟨hp, hr⟩ := killR_some hr
    simp only [killS, hp, Bool.false_eq_true, if_false, Option.map_eq_some_iff] at hk
    obtain ⟨k0, h0, rfl⟩ := hk
    obtain ⟨q1, q2, q3⟩ := Blk.kill_sz p k0
    obtain ⟨cur, hb, hl, hs, hc⟩ := h.blk i k0 b h0 hr (by rw [← q1]; exact hz)
    refine ⟨cur, by rw [q2]; exact hb, by rw [q1]; exact Blk.kill_len p k0 hl, by rw [q1, q3]; exact hs, fun i' e j c he hcc => ?_⟩
    obtain ⟨e0, c0, he0, hc0, hor, hnn⟩ := Blk.kill_get p k0 he hcc
    obtain ⟨x, hx, h1, hr'⟩ := hc i' e0 j c0 he0 hc0
    rw [q1]
    refine ⟨x, hx, h1, Rep.killR ?_ fun id hid => (hnn id hid).2⟩
    rcases hor with rfl | rfl
    · exact hr'
    · exact hr'.dk p
  inj := fun i j b h1 h2 => h.inj i j b (killR_some h1).2 (killR_some h2).2
  live := fun i b hr hs => by
    obtain ⟨hp, hr⟩ := killR_some hr
    simp only [killS, hp, Bool.false_eq_true, if_false, Option.map_eq_none_iff] at hs
    exact h.live i b hr hs
  apart := fun i b hr => h.apart i b (killR_some hr).2
  low := h.low
theorem EnvRep.kill {w : World} {ρ : Nat → Option Nat} {Im : Nat → Prop} {E : Env} {tm : Array Value} (p : Nat → Bool) (h : EnvRep w ρ Im E tm) : EnvRep w (killR p ρ) Im (killE p E) tm :=
  fun t y hy => Rep.killR ((h t y hy).kill p) fun id hid => (AV.kill_names p (E t) id hid).2
end Go.Vai
namespace Go.Vai
open Go.RowKit
def gtab : List (Nat × List Value) := [(4, [.int .u64 1, .int .u64 10, .int .u64 100, .int .u64 1000, .int .u64 10000, .int .u64 100000, .int .u64 1000000, .int .u64 10000000, .int .u64 100000000, .int .u64 1000000000, .int .u64 10000000000, .int .u64 100000000000, .int .u64 1000000000000, .int .u64 10000000000000, .int .u64 100000000000000, .int .u64 1000000000000000, .int .u64 10000000000000000, .int .u64 100000000000000000, .int .u64 1000000000000000000, .int .u64 10000000000000000000])]
def gwh : Bool := true
def GIs (b : Nat) : Prop := ∃ p ∈ gtab, p.1 = b
def GOK (w : World) (Im : Nat → Prop) : Prop := ∀ p ∈ gtab, Im p.1 ∧ (∀ (i : Nat) (v : Value), p.2[i]? = some v → w.cell? ⟨p.1, i, none⟩ = some v ∧ v.oneCell' = true) ∧ (gwh = true → ∃ e fr, w.heap[p.1]? = some (.cells p.2.toArray e fr))
theorem GOK.mono {w w' : World} {Im Im' : Nat → Prop} (h : GOK w Im) (hI : ∀ b, Im b → Im' b) (hb : ∀ b, GIs b → w'.heap[b]? = w.heap[b]?) : GOK w' Im' :=
  fun p hp => ⟨hI _ (h p hp).1, fun i v hv => by rw [World.cell?_of_block (hb p.1 ⟨p, hp, rfl⟩)]; exact (h p hp).2.1 i v hv, fun hg => by rw [hb p.1 ⟨p, hp, rfl⟩]; exact (h p hp).2.2 hg⟩
theorem GOK.im {w : World} {Im : Nat → Prop} (h : GOK w Im) {b : Nat} (hb : GIs b) : Im b := by
  obtain ⟨p, hp, rfl⟩ := hb; exact (h p hp).1
structure Str where
  m : Nat → Prop
  j : Nat → Prop
structure Fx where
  w0 : World
  X0 : Nat → Prop
  Im0 : Nat → Prop
  G : AV → Str → World → Prop
  N : Nat
  rd : Option (Nat × Loop)
  pin : Nat → Option (Option Nat)
  J0 : Nat → Prop
  R0 : Nat → Nat → Prop := fun _ _ => True
def stamp (D : Nat) : Deferred := { target := .collected D, args := #[] }
def Fx.book (C : Fx) (a : Act) (b : Nat) : Prop := (∃ r, C.rd = some (b, r)) ∨ stamp b ∈ a.defers
def GStable (G : AV → Str → World → Prop) : Prop :=
  ∀ g M w w', G g M w → (∀ k, M.m k ∨ M.j k → w'.heap[k]? = w.heap[k]?) → w.heap.size ≤ w'.heap.size → w'.os = w.os → w'.tape = w.tape → w'.output = w.output → G g M w'
structure Wit (C : Fx) (E : Env) (σ : Store) (a : Act) (w : World) (ρ : Nat → Option Nat) (Im : Nat → Prop) (M : Str) : Prop where
  inv : Inv w ρ Im σ
  env : EnvRep w ρ Im E a.tmps
  size : a.tmps.size = C.N
  ext : Ext C.w0 C.X0 w
  rng : ∀ id b, ρ id = some b → (C.X0 b ∧ C.R0 id b) ∨ C.w0.heap.size ≤ b
  im : ∀ b, Im b → C.Im0 b ∨ C.w0.heap.size ≤ b
  gh : ∀ p, AV.namesB p (E C.N) = false
  g : C.G (E C.N) M w
  js : ∀ b, M.j b → Im b
  ms : ∀ b, M.m b → b < w.heap.size ∧ (∀ id, ρ id ≠ some b) ∧ ¬ Im b ∧ (C.X0 b ∨ C.w0.heap.size ≤ b)
  rd : ∀ l r, C.rd = some (l, r) → w.heap[l]? = some (.loop r)
  nodup : a.defers.Nodup
  df : ∀ d ∈ a.defers, ∃ D, d = stamp D ∧ w.heap[D]? = some (.deferred (some [])) ∧ C.w0.heap.size ≤ D
  bk : ∀ b, C.book a b → (∀ id, ρ id ≠ some b) ∧ ¬ Im b ∧ ¬ M.m b
  pin : ∀ id ob, C.pin id = some ob → ρ id = ob
  j0 : ∀ b, C.J0 b → Im b
def St (C : Fx) (E : Env) (σ : Store) (a : Act) (w : World) : Prop := ∃ ρ Im M, Wit C E σ a w ρ Im M
section
variable {C : Fx} {E : Env} {σ : Store} {a : Act} {w : World} {ρ : Nat → Option Nat} {Im : Nat → Prop} {M : Str}
theorem stamp_inj {D D' : Nat} (h : stamp D = stamp D') : D = D' := by
  simp [stamp] at h; exact h
theorem Wit.bklt (h : Wit C E σ a w ρ Im M) {b : Nat} (hb : C.book a b) : b < w.heap.size := by
  rcases hb with ⟨r, hr⟩ | hd
  · exact (Array.getElem?_eq_some_iff.1 (h.rd b r hr)).1
  · obtain ⟨D, e, hD, _⟩ := h.df _ hd
    rw [stamp_inj e]; exact (Array.getElem?_eq_some_iff.1 hD).1
theorem Wit.step (hG : GStable C.G) (h : Wit C E σ a w ρ Im M) {w' : World} {ρ' : Nat → Option Nat} {Im' : Nat → Prop} {E' : Env} {σ' : Store} {a' : Act}
    (hx : Ext w (fun b => ∃ id, ρ id = some b) w') (hinv : Inv w' ρ' Im' σ') (henv : EnvRep w' ρ' Im' E' a'.tmps) (hsz : a'.tmps.size = a.tmps.size) (hd : a'.defers = a.defers)
    (hN : E' C.N = E C.N) (hρ : ∀ id b, ρ' id = some b → ρ id = some b ∨ w.heap.size ≤ b) (hIm : ∀ b, Im' b → Im b ∨ w.heap.size ≤ b)
    (hpin : ∀ id ob, C.pin id = some ob → ρ' id = ob) (hImm : ∀ b, Im b → Im' b) : Wit C E' σ' a' w' ρ' Im' M where
  inv := hinv
  env := henv
  size := hsz.trans h.size
  ext := h.ext.trans hx fun b ⟨id, hb⟩ => (h.rng id b hb).imp_left And.left
  rng := fun id b hb => by
    rcases hρ id b hb with h' | h'
    · exact h.rng id b h'
    · exact .inr (Nat.le_trans h.ext.size h')
  im := fun b hb => by
    rcases hIm b hb with h' | h'
    · exact h.im b h'
    · exact .inr (Nat.le_trans h.ext.size h')
  gh := by rw [hN]; exact h.gh
  g := by rw [hN]; exact hG _ _ _ _ h.g (fun k hk => by
    rcases hk with hk | hk
    · exact hx.block k (h.ms k hk).1 fun ⟨id, hid⟩ => (h.ms k hk).2.1 id hid
    · exact hx.block k (h.inv.low k (h.js k hk)) fun ⟨id, hid⟩ => h.inv.apart id k hid (h.js k hk)) hx.size hx.os hx.tape hx.output
  js := fun b hb => hImm b (h.js b hb)
  ms := fun b hb => by
    obtain ⟨h1, h2, h3, h4⟩ := h.ms b hb
    refine ⟨Nat.lt_of_lt_of_le h1 hx.size, fun id hid => ?_, fun hi => ?_, h4⟩
    · rcases hρ id b hid with h' | h'
      · exact h2 id h'
      · omega
    · rcases hIm b hi with h' | h'
      · exact h3 h'
      · omega
  rd := fun l r hr => by
    have hb : C.book a l := .inl ⟨r, hr⟩
    rw [hx.block l (h.bklt hb) fun ⟨id, hid⟩ => (h.bk l hb).1 id hid]
    exact h.rd l r hr
  nodup := by rw [hd]; exact h.nodup
  df := fun d hdd => by
    rw [hd] at hdd
    obtain ⟨D, e, hD, hl⟩ := h.df d hdd
    have hb : C.book a D := .inr (e ▸ hdd)
    exact ⟨D, e, by rw [hx.block D (h.bklt hb) fun ⟨id, hid⟩ => (h.bk D hb).1 id hid]; exact hD, hl⟩
  pin := hpin
  j0 := fun b hb => hImm b (h.j0 b hb)
  bk := fun b hb => by
    have hb : C.book a b := by unfold Fx.book at *; rwa [hd] at hb
    obtain ⟨h1, h2, h3⟩ := h.bk b hb
    have hl := h.bklt hb
    refine ⟨fun id hid => ?_, fun hi => ?_, h3⟩
    · rcases hρ id b hid with h' | h'
      · exact h1 id h'
      · omega
    · rcases hIm b hi with h' | h'
      · exact h2 h'
      · omega
def updO (E : Env) : Option Nat → AV → Env
  | none, _ => E
  | some d, v => upd E d v
@[simp] theorem updO_some (E : Env) (d : Nat) (v : AV) : updO E (some d) v = upd E d v := rfl
@[simp] theorem updO_none (E : Env) (v : AV) : updO E none v = E := rfl
theorem put_size (a : Act) (dst : Option Nat) (y : Value) : (a.put dst y).tmps.size = a.tmps.size := by cases dst <;> simp [Act.put]
theorem put_defers (a : Act) (dst : Option Nat) (y : Value) : (a.put dst y).defers = a.defers := by cases dst <;> rfl
theorem EnvRep.put {tm : Act} {v : AV} {y : Value} {dst : Option Nat} (h : EnvRep w ρ Im E tm.tmps) (hv : Rep w ρ Im v y) : EnvRep w ρ Im (updO E dst v) (tm.put dst y).tmps := by
  cases dst with
  | none => exact h
  | some d =>
    intro t z hz
    simp only [Act.put, Array.getElem?_setIfInBounds] at hz
    simp only [updO, upd]
    split at hz
    · rename_i e; subst e
      split at hz
      · cases hz; simpa using hv
      · cases hz
    · rename_i e
      rw [if_neg (fun h => e h.symm)]
      exact h t z hz
theorem updO_ne {E : Env} {dst : Option Nat} {v : AV} {N : Nat} (h : ∀ d, dst = some d → d < N) : updO E dst v N = E N := by
  cases dst with
  | none => rfl
  | some d => have := h d rfl; simp only [updO, upd]; rw [if_neg (by omega)]
theorem Wit.put (hG : GStable C.G) (h : Wit C E σ a w ρ Im M) {dst : Option Nat} {v : AV} {y : Value} (hd : ∀ d, dst = some d → d < C.N) (hv : Rep w ρ Im v y) :
    Wit C (updO E dst v) σ (a.put dst y) w ρ Im M :=
  h.step hG (Ext.refl _ _) h.inv (h.env.put hv) (put_size ..) (put_defers ..) (updO_ne hd) (fun id _ hb => .inl hb) (fun _ hb => .inl hb) h.pin (fun _ h => h)
theorem kill_of_not {p : Nat → Bool} {a : AV} (h : AV.namesB p a = false) : a.kill p = a := by simp [AV.kill, h]
theorem Wit.kill (hG : GStable C.G) (h : Wit C E σ a w ρ Im M) (p : Nat → Bool) (hp : ∀ id b, C.pin id = some b → p id = false) : Wit C (killE p E) (killS p σ) a w (killR p ρ) Im M :=
  h.step hG (Ext.refl _ _) (h.inv.kill p) (h.env.kill p) rfl rfl (kill_of_not (h.gh p)) (fun id _ hb => .inl (killR_some hb).2) (fun _ hb => .inl hb)
    (fun id b hb => by rw [killR_of ρ (hp id b hb)]; exact h.pin id b hb) (fun _ h => h)
theorem Rep.drawn {v : AV} {y : Value} (h : Rep w ρ Im v y) (n : Nat) : Rep { w with drawn := n } ρ Im v y :=
  Rep.mono (w := w) (w' := { w with drawn := n }) (fun _ h => h) (fun _ _ => rfl) h fun _ _ => ⟨rfl, fun _ _ cur _ hb => ⟨cur, hb, rfl⟩⟩
theorem Inv.drew (h : Inv w ρ Im σ) (n : Nat) : Inv { w with drawn := n } ρ Im σ where
  nil := h.nil
  map := fun id k b hk hr hz => by
    obtain ⟨ents, clk, hb, hl, hc⟩ := h.map id k b hk hr hz
    exact ⟨ents, clk, hb, hl, fun i m hm => by obtain ⟨v, hv, hrv⟩ := hc i m hm; exact ⟨v, hv, hrv.drawn n⟩⟩
  blk := fun id k b hk hr hz => by
    obtain ⟨cur, hb, hl, hs, hc⟩ := h.blk id k b hk hr hz
    exact ⟨cur, hb, hl, hs, fun i e j c he hcc => by
      obtain ⟨x, hx, h1, hr'⟩ := hc i e j c he hcc
      exact ⟨x, hx, h1, hr'.drawn n⟩⟩
  inj := h.inj
  live := h.live
  apart := h.apart
  low := h.low
theorem Wit.drew (hG : GStable C.G) (h : Wit C E σ a w ρ Im M) (n : Nat) : Wit C E σ a { w with drawn := n } ρ Im M :=
  h.step hG ⟨rfl, rfl, rfl, Nat.le_refl _, fun _ _ _ => rfl⟩ (h.inv.drew n)
    (fun t y hy => (h.env t y hy).drawn n) rfl rfl rfl (fun id _ hb => .inl hb) (fun _ hb => .inl hb) h.pin (fun _ h => h)
def updR (ρ : Nat → Option Nat) (d : Nat) (b : Option Nat) : Nat → Option Nat := fun t => if t = d then b else ρ t
@[simp] theorem updR_same (ρ : Nat → Option Nat) (d : Nat) (b : Option Nat) : updR ρ d b d = b := by simp [updR]
theorem updR_ne (ρ : Nat → Option Nat) (d : Nat) (b : Option Nat) (t : Nat) (h : t ≠ d) : updR ρ d b t = ρ t := by simp [updR, h]
theorem Rep.later {w' : World} {d : Nat} {ob : Option Nat} {v : AV} {y : Value} (h : Rep w ρ Im v y) (hlow : ∀ b, Im b → b < w.heap.size) (hrl : ∀ id b, ρ id = some b → b < w.heap.size)
    (hb : ∀ k, k < w.heap.size → w'.heap[k]? = w.heap[k]?) (hn : ¬ Names v d) : Rep w' (updR ρ d ob) Im v y :=
  h.mono (fun _ h => h) (fun b hI => hb b (hlow b hI)) fun id hid =>
    ⟨updR_ne ρ d ob id (fun e => hn (e ▸ hid)), fun b hr cur e hc => ⟨cur, by rw [hb b (hrl id b hr)]; exact hc, rfl⟩⟩
theorem cells_names' {v c : AV} {id : Nat} (hc : c ∈ v.cells) (h : Names c id) : Names v id := by
  cases v with
  | agg cs => exact .agg cs c id hc h
  | _ => simp [AV.cells] at hc; subst hc; exact h
theorem Inv.fresh {w' : World} (h : Inv w ρ Im σ) (hs : w.heap.size ≤ w'.heap.size) (hb : ∀ k, k < w.heap.size → w'.heap[k]? = w.heap[k]?) {d : Nat} {k : Blk} {ob : Option Nat} {Im' : Nat → Prop}
    (hd : σ d = none) (hcl : ∀ id k', σ id = some k' → ∀ e ∈ k'.es, ¬ Names e d)
    (hIm : ∀ b, Im b → Im' b) (hIm' : ∀ b, Im' b → Im b ∨ (w.heap.size ≤ b ∧ b < w'.heap.size ∧ ob ≠ some b))
    (hnew : match ob with
      | none => k.es = []
      | some b => w.heap.size ≤ b ∧ b < w'.heap.size ∧ (k.sz = 0 → MapOK w' (updR ρ d ob) Im' k.es b) ∧ (k.sz ≠ 0 → ∃ cur, (∃ fr, w'.heap[b]? = some (.cells cur k.e fr) ∧ Mk fr cur.size) ∧ (∀ e ∈ k.es, e.cells.length = k.sz) ∧ k.es.length * k.sz ≤ cur.size ∧
          (∀ (i : Nat) (e : AV) (j : Nat) (c : AV), k.es[i]? = some e → e.cells[j]? = some c → ∃ x, cur[i * k.sz + j]? = some x ∧ x.oneCell' = true ∧ Rep w' (updR ρ d ob) Im' c x))) :
    Inv w' (updR ρ d ob) Im' (updS σ d k) where
  nil := fun id k' hk hr => by
    by_cases e : id = d
    · subst e; simp at hk hr; subst hk; subst hr; exact hnew
    · rw [updS_ne _ _ _ _ e] at hk; rw [updR_ne _ _ _ _ e] at hr; exact h.nil id k' hk hr
  map := fun id k' b hk hr hz => by
    by_cases e : id = d
    · subst e; simp at hk hr; subst hk; subst hr; exact hnew.2.2.1 hz
    · rw [updS_ne _ _ _ _ e] at hk; rw [updR_ne _ _ _ _ e] at hr
      obtain ⟨ents, clk, hbb, hl, hc⟩ := h.map id k' b hk hr hz
      refine ⟨ents, clk, by rw [hb b (h.lt hr)]; exact hbb, hl, fun i m hm => ?_⟩
      obtain ⟨v, hv, hr'⟩ := hc i m hm
      exact ⟨v, hv, (hr'.later h.low (fun _ _ => h.lt) hb (fun hn => hcl id k' hk _ (List.mem_of_getElem? hv) (.tup _ v d (by simp) hn))).mono hIm (fun _ _ => rfl) fun _ _ => ⟨rfl, fun _ _ cur _ hb => ⟨cur, hb, rfl⟩⟩⟩
  blk := fun id k' b hk hr hz => by
    by_cases e : id = d
    · subst e; simp at hk hr; subst hk; subst hr; exact hnew.2.2.2 hz
    · rw [updS_ne _ _ _ _ e] at hk; rw [updR_ne _ _ _ _ e] at hr
      obtain ⟨cur, hbb, hl, hs', hc⟩ := h.blk id k' b hk hr hz
      refine ⟨cur, by rw [hb b (h.lt hr)]; exact hbb, hl, hs', fun i e' j c he hcc => ?_⟩
      obtain ⟨x, hx, h1, hr'⟩ := hc i e' j c he hcc
      exact ⟨x, hx, h1, (hr'.later h.low (fun _ _ => h.lt) hb (fun hn => hcl id k' hk e' (List.mem_of_getElem? he) (cells_names' (List.mem_of_getElem? hcc) hn))).mono hIm (fun _ _ => rfl) fun _ _ => ⟨rfl, fun _ _ cur _ hb => ⟨cur, hb, rfl⟩⟩⟩
  inj := fun i j b h1 h2 => by
    by_cases e1 : i = d <;> by_cases e2 : j = d
    · rw [e1, e2]
    · subst e1; rw [updR_same] at h1; rw [updR_ne _ _ _ _ e2] at h2; subst h1; have := h.lt h2; have := hnew.1; omega
    · subst e2; rw [updR_same] at h2; rw [updR_ne _ _ _ _ e1] at h1; subst h2; have := h.lt h1; have := hnew.1; omega
    · rw [updR_ne _ _ _ _ e1] at h1; rw [updR_ne _ _ _ _ e2] at h2; exact h.inj i j b h1 h2
  live := fun i b hr hs' => by
    by_cases e : i = d
    · subst e; simp at hs'
    · rw [updR_ne _ _ _ _ e] at hr; rw [updS_ne _ _ _ _ e] at hs'; exact h.live i b hr hs'
  apart := fun i b hr hI => by
    by_cases e : i = d
    · subst e; rw [updR_same] at hr; subst hr
      rcases hIm' b hI with h' | ⟨_, _, h'⟩
      · have := h.low b h'; have := hnew.1; omega
      · exact h' rfl
    · rw [updR_ne _ _ _ _ e] at hr
      rcases hIm' b hI with h' | ⟨h', _, _⟩
      · exact h.apart i b hr h'
      · have := h.lt hr; omega
  low := fun b hI => by
    rcases hIm' b hI with h' | ⟨_, h', _⟩
    · have := h.low b h'; omega
    · exact h'
end
end Go.Vai
namespace Go.Vai
open Go.RowKit
def tsz (P : Program) (t : TypeId) : Nat := ((P.info? t).map (·.size)).getD 0
def tby (P : Program) (t : TypeId) : Nat := ((P.info? t).map (·.bytes)).getD 0
def tz (P : Program) (t : TypeId) : Option Value := (P.info? t).bind (·.zero)
def tagg (P : Program) (t : TypeId) : Option Bool := match P.underlying t with | some (.struct _) => some true | some (.array _ _) => some true | some _ => some false | none => none
def tel (P : Program) (t : TypeId) : Option TypeId := match P.underlying t with | some (.slice e) => some e | _ => none
def tarr (P : Program) (t : TypeId) : Option (Nat × TypeId) := match P.underlying t with | some (.array n e) => some (n, e) | _ => none
def tfld (P : Program) (t : TypeId) : Option (List (Nat × TypeId)) := match P.underlying t with | some (.struct fs) => some (fs.toList.map fun f => (f.offset, f.type)) | _ => none
def tint (P : Program) (t : TypeId) : Option IntKind := match P.underlying t with | some (.int k) => some k | _ => none
def tstr (P : Program) (t : TypeId) : Bool := match P.underlying t with | some .string => true | _ => false
def AV.ok : AV → Bool
  | .agg _ => true
  | x => x.atom
def ofC : Value → AV
  | .agg cs => if cs.toList.all (·.oneCell') then .agg (cs.toList.map .v) else .any
  | .tuple vs => .tup (vs.toList.map .v)
  | x => .v x
def ev (E : Env) : Operand → AV
  | .tmp t => E t
  | .const x => ofC x
  | .func f => .clo f []
  | .global _ => .any
def bitsI (op : BinOp) (k : IntKind) (x y : Int) : Int :=
  let a := BitVec.ofInt k.bits x
  let b := BitVec.ofInt k.bits y
  match op with
  | .and => k.wrap (a &&& b).toNat
  | .or => k.wrap (a ||| b).toNat
  | .xor => k.wrap (a ^^^ b).toNat
  | .andNot => k.wrap (a &&& ~~~b).toNat
  | _ => 0
def binI (op : BinOp) (k : IntKind) (a : Int) (k' : IntKind) (b : Int) (r : AV) : Prop :=
  match op with
  | .shl => 0 ≤ b ∧ r = .v (.int k (k.wrap (a * 2 ^ (min b.toNat k.bits))))
  | .shr => 0 ≤ b ∧ r = .v (.int k (a.fdiv (2 ^ (min b.toNat k.bits))))
  | .add => k = k' ∧ r = .v (.int k (k.wrap (a + b)))
  | .sub => k = k' ∧ r = .v (.int k (k.wrap (a - b)))
  | .mul => k = k' ∧ r = .v (.int k (k.wrap (a * b)))
  | .quo => k = k' ∧ b ≠ 0 ∧ r = .v (.int k (k.wrap (a.tdiv b)))
  | .rem => k = k' ∧ b ≠ 0 ∧ r = .v (.int k (a.tmod b))
  | .eql => k = k' ∧ r = .v (.bool (a == b))
  | .neq => k = k' ∧ r = .v (.bool (a != b))
  | .lss => k = k' ∧ r = .v (.bool (decide (a < b)))
  | .leq => k = k' ∧ r = .v (.bool (decide (a ≤ b)))
  | .gtr => k = k' ∧ r = .v (.bool (decide (b < a)))
  | .geq => k = k' ∧ r = .v (.bool (decide (b ≤ a)))
  | .and => k = k' ∧ r = .v (.int k (bitsI .and k a b))
  | .or => k = k' ∧ r = .v (.int k (bitsI .or k a b))
  | .xor => k = k' ∧ r = .v (.int k (bitsI .xor k a b))
  | .andNot => k = k' ∧ r = .v (.int k (bitsI .andNot k a b))
def binS (op : BinOp) (a b : ByteArray) (r : AV) : Prop :=
  match op with
  | .add => a.size + b.size ≤ 9223372036854775807 ∧ r = .v (.string (a ++ b))
  | .eql => r = .v (.bool (a.toList == b.toList))
  | .neq => r = .v (.bool (!(a.toList == b.toList)))
  | .lss => r = .v (.bool (Op.bytesLess a.toList b.toList))
  | .leq => r = .v (.bool (Op.bytesLess a.toList b.toList || a.toList == b.toList))
  | .gtr => r = .v (.bool (!(Op.bytesLess a.toList b.toList || a.toList == b.toList)))
  | .geq => r = .v (.bool (!Op.bytesLess a.toList b.toList))
  | _ => False
def partOf (P : Program) (t : TypeId) (cs : List AV) (off : Nat) (r : AV) : Prop :=
  match tagg P t with
  | some true => 0 < tsz P t ∧ off + tsz P t ≤ cs.length ∧ r = .agg ((cs.drop off).take (tsz P t))
  | some false => cs[off]? = some r
  | none => False
def cellsAt (σ : Store) (a : AV) (K : List AV → Nat → Prop) : Prop :=
  match a with
  | .pt e j => K e.cells j
  | .ptr id sz i j => ∃ k, σ id = some k ∧ k.sz = sz ∧ ∃ e, k.es[i]? = some e ∧ K e.cells j
  | _ => False
def slIdx (P : Program) (e : TypeId) (x : AV) (i : Int) (r : AV) : Prop :=
  match x with
  | .sl sz es => 0 < sz ∧ tsz P e = sz ∧ 0 ≤ i ∧ ∃ c, es[i.toNat]? = some c ∧ r = .pt c 0
  | .own id sz o n => 0 < sz ∧ tsz P e = sz ∧ 0 ≤ i ∧ i < (n : Int) ∧ r = .ptr id sz (o + i.toNat) 0
  | _ => False
def slCut (P : Program) (e : TypeId) (x : AV) (lo hi : Nat) (r : AV) : Prop :=
  match x with
  | .sl sz es => 0 < sz ∧ tsz P e = sz ∧ lo ≤ hi ∧ hi ≤ es.length ∧ r = .sl sz ((es.drop lo).take (hi - lo))
  | .own id sz o n => 0 < sz ∧ tsz P e = sz ∧ lo ≤ hi ∧ hi ≤ n ∧ r = .own id sz (o + lo) (hi - lo)
  | _ => False
def strCut (x : AV) (lo hi : Nat) (r : AV) : Prop :=
  match x with
  | .v (.string s) => lo ≤ hi ∧ hi ≤ s.size ∧ r = .v (.string (s.extract lo hi))
  | _ => False
def bound (E : Env) (x : Option Operand) (dflt : Nat) (K : Nat → Prop) : Prop :=
  match x with
  | none => K dflt
  | some y => match ev E y with
    | .v (.int _ n) => 0 ≤ n ∧ K n.toNat
    | _ => False
def lenV : AV → Option Nat
  | .sl _ es => some es.length
  | .own _ _ _ n => some n
  | .v (.string s) => some s.size
  | .v (.slice _ n _) => some n
  | _ => none
def tkind (P : Program) (t : TypeId) : Option Nat := match P.underlying t with | some (.int _) => some 0 | some .bool => some 1 | some .string => some 2 | _ => none
def fieldKinds (P : Program) : Nat → List Field → Option (List Nat)
  | _, [] => some []
  | i, f :: fs => if f.name != "_" && f.offset == i then (tkind P f.type).bind fun k => (fieldKinds P (i + 1) fs).map (k :: ·) else none
def fieldKinds2 (P : Program) : Nat → List Field → Option (List Nat)
  | _, [] => some []
  | i, f :: fs => if f.name != "_" && f.offset == i then
      match tkind P f.type with
      | some k => (fieldKinds2 P (i + 1) fs).map (k :: ·)
      | none => match P.underlying f.type with
        | some (.struct gs) => if P.stoodInHeld f.type then none else (fieldKinds P 0 gs.toList).bind fun ks1 => if ks1.length = tsz P f.type ∧ 0 < tsz P f.type then (fieldKinds2 P (i + ks1.length) fs).map (ks1 ++ ·) else none
        | _ => none
    else none
def teq (P : Program) (t : TypeId) : Option (List Nat) := match P.underlying t with
  | some (.struct fs) => if P.stoodInHeld t || P.eqGuardType P.depth t then none else fieldKinds2 P 0 fs.toList
  | _ => none
def eqK : List Nat → List AV → List AV → Option Bool
  | [], [], [] => some true
  | 0 :: ks, .v (.int k a) :: r, .v (.int k' b) :: s => if k = k' then (eqK ks r s).map ((a == b) && ·) else none
  | 1 :: ks, .v (.bool a) :: r, .v (.bool b) :: s => (eqK ks r s).map ((a == b) && ·)
  | 2 :: ks, .v (.string a) :: r, .v (.string b) :: s => (eqK ks r s).map ((a.toList == b.toList) && ·)
  | _, _, _ => none
def fillA (place : Nat → Option (Nat × Nat)) (cs : List AV) : List (Nat × AV) → Option (List AV)
  | [] => some cs
  | (i, v) :: rest => match place i with
    | none => none
    | some (off, size) => if v.cells.length = size ∧ off + size ≤ cs.length ∧ v.ok = true then fillA place (cs.take off ++ v.cells ++ cs.drop (off + size)) rest else none
def AV.full : AV → Bool
  | .sl _ (_ :: _) => true
  | .own _ _ _ (_ + 1) => true
  | _ => false
def pureV (P : Program) (op : Op) (E : Env) (σ : Store) (r : AV) : Prop :=
  match op with
  | .move x => r = ev E x
  | .assign x => r = ev E x
  | .pick c x y => match ev E c with | .v (.bool b) => r = if b then ev E x else ev E y | _ => False
  | .load t x => cellsAt σ (ev E x) fun cs j => partOf P t cs j r
  | .nilCheck x => match ev E x with | .pt e j => r = .pt e j | .ptr id sz i j => r = .ptr id sz i j | .clo g cs => r = .clo g cs | _ => False
  | .binOp op t x y _ => match ev E x, ev E y with
    | .v (.int k a), .v (.int k' b) => binI op k a k' b r
    | .v (.string a), .v (.string b) => binS op a b r
    | .v (.bool a), .v (.bool b) => tkind P t = some 1 ∧ ((op = .eql ∧ r = .v (.bool (a == b))) ∨ (op = .neq ∧ r = .v (.bool (!(a == b)))))
    | .agg cs, .agg ds => ∃ ks, teq P t = some ks ∧ ∃ b, eqK ks cs ds = some b ∧ ((op = .eql ∧ r = .v (.bool b)) ∨ (op = .neq ∧ r = .v (.bool (!b))))
    | u, .v (.slice none 0 0) => u.full = true ∧ (tel P t).isSome = true ∧ ((op = .eql ∧ r = .v (.bool false)) ∨ (op = .neq ∧ r = .v (.bool true)))
    | _, _ => False
  | .build t parts => ∃ z, tz P t = some z ∧ (ofC z).ok = true ∧
      ((∃ fs, tfld P t = some fs ∧ (fs.all fun f => decide (0 < tsz P f.2)) = true ∧ ∃ cs, fillA (fun i => (fs[i]?).map fun f => (f.1, tsz P f.2)) (ofC z).cells (parts.toList.map fun p => (p.1, ev E p.2)) = some cs ∧ r = .agg cs) ∨
       (∃ m e, tarr P t = some (m, e) ∧ 0 < tsz P e ∧ ∃ cs, fillA (fun i => some (i * tsz P e, tsz P e)) (ofC z).cells (parts.toList.map fun p => (p.1, ev E p.2)) = some cs ∧ r = .agg cs))
  | .unOp op _ x => match op, ev E x with
    | .not, .v (.bool b) => r = .v (.bool (!b))
    | .neg, .v (.int k n) => r = .v (.int k (k.wrap (0 - n)))
    | .xor, .v (.int k n) => r = .v (.int k (bitsI .xor k (if k.signed then -1 else k.max) n))
    | _, _ => False
  | .convert src dst x => match tint P dst, ev E x with
    | some k, .v (.int _ n) => (∃ d, P.underlying src = some d) ∧ r = .v (.int k (k.wrap n))
    | _, _ => False
  | .makeFunc (.func f) first cs => (first = #[] ∧ headOK (cs.toList.map (ev E)) = true ∧ r = .clo f (cs.toList.map (ev E))) ∨ (cs = #[] ∧ r = .clo f (.v (.tuple #[]) :: first.toList.map (ev E)))
  | .fieldAddr s x f => ∃ fs, tfld P s = some fs ∧ ∃ off t, fs[f]? = some (off, t) ∧ 0 < tsz P t ∧
      match ev E x with | .pt e j => r = .pt e (j + off) | .ptr id sz i j => r = .ptr id sz i (j + off) | _ => False
  | .field s x f => ∃ fs, tfld P s = some fs ∧ ∃ off t, fs[f]? = some (off, t) ∧ match ev E x with | .agg cs => partOf P t cs off r | _ => False
  | .indexAddr t x i => match ev E i with
    | .v (.int _ n) => (∃ e, tel P t = some e ∧ slIdx P e (ev E x) n r) ∨
        (∃ m e, tarr P t = some (m, e) ∧ 0 < tsz P e ∧ 0 ≤ n ∧ n < (m : Int) ∧ match ev E x with | .pt c j => r = .pt c (j + n.toNat * tsz P e) | .ptr id sz o j => r = .ptr id sz o (j + n.toNat * tsz P e) | _ => False)
    | _ => False
  | .index t x i => match ev E i, ev E x with
    | .v (.int _ n), .v (.string s) => tstr P t = true ∧ 0 ≤ n ∧ ∃ c, s[n.toNat]? = some c ∧ r = .v (.int .u8 c.toNat)
    | .v (.int _ n), .agg cs => ∃ m e, tarr P t = some (m, e) ∧ 0 < tsz P e ∧ 0 ≤ n ∧ n < (m : Int) ∧ partOf P e cs (n.toNat * tsz P e) r
    | _, _ => False
  | .extract x i => match ev E x with | .tup vs => vs[i]? = some r | _ => False
  | .slice t x lo hi none => (∃ e, tel P t = some e ∧ ∃ n, lenV (ev E x) = some n ∧ bound E hi n fun h => bound E lo 0 fun l => slCut P e (ev E x) l h r) ∨
      tstr P t = true ∧ (∃ n, lenV (ev E x) = some n ∧ bound E hi n fun h => bound E lo 0 fun l => strCut (ev E x) l h r)
  | .call { callee := .builtin .len, args, argTypes } => match args.toList, argTypes.toList with
    | [x], [t] => (tstr P t = true ∧ match ev E x with | .v (.string s) => r = .v (.int .i64 (s.size : Int)) | _ => False) ∨
        ((tel P t).isSome = true ∧ match ev E x with | .sl _ es => r = .v (.int .i64 (es.length : Int)) | .own _ _ _ n => r = .v (.int .i64 (n : Int)) | .v (.slice _ n _) => r = .v (.int .i64 (n : Int)) | _ => False) ∨
        (∃ m e, tarr P t = some (m, e) ∧ r = .v (.int .i64 (m : Int)))
    | _, _ => False
  | .call { callee := .builtin .max, args, argTypes := _ } => match args.toList.map (ev E) with
    | [.v (.int k a), .v (.int _ b)] => r = .v (.int k (if b > a then b else a))
    | _ => False
  | .call { callee := .builtin .min, args, argTypes := _ } => match args.toList.map (ev E) with
    | [.v (.int k a), .v (.int _ b)] => r = .v (.int k (if b < a then b else a))
    | _ => False
  | .call { callee := .builtin .unsafeSliceData, args, argTypes := _ } => match args.toList.map (ev E) with
    | [.own id sz 0 (_ + 1)] => sz = 1 ∧ r = .ptr id 1 0 0
    | _ => False
  | _ => False
section runs
variable {P : Program} {w : World} {ρ : Nat → Option Nat} {Im : Nat → Prop}
theorem info_of {t : TypeId} (h : 0 < tsz P t) : ∃ i, P.info? t = some i ∧ i.size = tsz P t ∧ i.bytes = tby P t := by
  unfold tsz tby at *
  cases hi : P.info? t with
  | none => simp [hi] at h
  | some i => exact ⟨i, rfl, by simp, by simp⟩
theorem run_sizeOf' {t : TypeId} (h : 0 < tsz P t) (w : World) : (sizeOf t).run P w = .ok (tsz P t) w := by
  obtain ⟨i, hi, hs, _⟩ := info_of h
  simp [sizeOf, typeInfo, hi, hs]
theorem run_isAgg' {t : TypeId} {b : Bool} (h : tagg P t = some b) (w : World) : (isAgg t).run P w = .ok b w := by
  unfold tagg at h
  unfold isAgg
  cases hu : P.underlying t with
  | none => simp [hu] at h
  | some d =>
    simp only [hu] at h
    rw [Sem.run_bind, run_underlying hu w]
    cases d <;> simp_all
theorem Rep.v_inv {x y : Value} (h : Rep w ρ Im (.v x) y) : y = x := by
  cases h with | im _ _ h => cases h; rfl
theorem Rep.full {a : AV} {y : Value} (h : Rep w ρ Im a y) (hf : a.full = true) : ∃ ad n c, y = .slice (some ad) n c := by
  cases h with
  | im _ _ h =>
    cases h with
    | sl sz es b o cap f => exact ⟨_, _, _, rfl⟩
    | slnil sz a cap => simp [AV.full] at hf
    | _ => simp [AV.full] at hf
  | own id sz n b cap cur e => exact ⟨_, _, _, rfl⟩
  | ownNil id sz => simp [AV.full] at hf
  | ownAt id sz i n b cap a hi hr hn ha hz =>
    cases n with
    | zero => simp [AV.full] at hf
    | succ n => rw [ha (by omega)]; exact ⟨_, _, _, rfl⟩
  | _ => simp [AV.full] at hf
theorem Rep.agg_inv {cs : List AV} {y : Value} (h : Rep w ρ Im (.agg cs) y) : ∃ ys : List Value, y = .agg ys.toArray ∧ cs.length = ys.length ∧ (∀ y ∈ ys, y.oneCell' = true) ∧
    ∀ (j : Nat) (c : AV) (y : Value), cs[j]? = some c → ys[j]? = some y → Rep w ρ Im c y := by
  cases h with
  | im _ _ h => cases h with | agg _ ys hl h1 h => exact ⟨ys, rfl, hl, h1, fun j c y hc hy => .im _ _ (h j c y hc hy)⟩
  | agg _ ys hl h1 h => exact ⟨ys, rfl, hl, h1, h⟩
theorem Rep.tup_inv {cs : List AV} {y : Value} (h : Rep w ρ Im (.tup cs) y) : ∃ ys : List Value, y = .tuple ys.toArray ∧ cs.length = ys.length ∧
    ∀ (j : Nat) (c : AV) (y : Value), cs[j]? = some c → ys[j]? = some y → Rep w ρ Im c y := by
  cases h with
  | im _ _ h => cases h with | tup _ ys hl h => exact ⟨ys, rfl, hl, fun j c y hc hy => .im _ _ (h j c y hc hy)⟩
  | tup _ ys hl h => exact ⟨ys, rfl, hl, h⟩
theorem Rep.clo_inv {g : Nat} {cs : List AV} {y : Value} (h : Rep w ρ Im (.clo g cs) y) : ∃ ys : List Value, y = mkF g ys ∧ cs.length = ys.length ∧
    ∀ (j : Nat) (c : AV) (y : Value), cs[j]? = some c → ys[j]? = some y → Rep w ρ Im c y := by
  cases h with
  | im _ _ h => cases h with | clo _ _ ys hl h => exact ⟨ys, rfl, hl, fun j c y hc hy => .im _ _ (h j c y hc hy)⟩
  | clo _ _ ys hl h => exact ⟨ys, rfl, hl, h⟩
theorem headOK_mkF {g : Nat} {cs : List AV} {ys : List Value} (hh : headOK cs = true) (hl : cs.length = ys.length) (h : ∀ (j : Nat) (c : AV) (y : Value), cs[j]? = some c → ys[j]? = some y → Rep w ρ Im c y) : mkF g ys = .func (.func g) #[] ys.toArray := by
  match cs, ys, hl with
  | [], [], _ => rfl
  | c :: cs, y :: ys, _ =>
    have hr := h 0 c y rfl rfl
    have hne : ∀ t, y ≠ .tuple t := fun t e => by
      cases c with
      | any => cases hh
      | tup => cases hh
      | v x => have := hr.v_inv; subst this; subst e; cases hh
      | clo g' cs' =>
        obtain ⟨zs, hz, _⟩ := hr.clo_inv
        obtain ⟨a, b, e2⟩ := mkF_func g' zs
        rw [hz, e2] at e; cases e
      | _ =>
        subst e
        cases hr with
        | im _ _ hi => cases hi
    unfold mkF
    split
    · rename_i t ys' e
      cases e
      exact absurd rfl (hne t)
    · rfl
theorem Rep.clo_plain {g : Nat} {cs : List AV} {y : Value} (h : Rep w ρ Im (.clo g cs) y) (hh : headOK cs = true) : ∃ ys : List Value, y = .func (.func g) #[] ys.toArray ∧ cs.length = ys.length ∧
    ∀ (j : Nat) (c : AV) (y : Value), cs[j]? = some c → ys[j]? = some y → Rep w ρ Im c y := by
  obtain ⟨ys, rfl, hl, hr⟩ := h.clo_inv
  exact ⟨ys, headOK_mkF hh hl hr, hl, hr⟩
theorem Rep.agg_mk {cs : List AV} {ys : List Value} (hl : cs.length = ys.length) (h1 : ∀ y ∈ ys, y.oneCell' = true) (h : ∀ (j : Nat) (c : AV) (y : Value), cs[j]? = some c → ys[j]? = some y → Rep w ρ Im c y) :
    Rep w ρ Im (.agg cs) (.agg ys.toArray) := .agg cs ys hl h1 h
def Reps (w : World) (ρ : Nat → Option Nat) (Im : Nat → Prop) (cs : List AV) (ys : List Value) : Prop :=
  cs.length = ys.length ∧ ∀ (j : Nat) (c : AV) (y : Value), cs[j]? = some c → ys[j]? = some y → Rep w ρ Im c y
theorem partOf_sound {t : TypeId} {cs : List AV} {off : Nat} {r : AV} (h : partOf P t cs off r) {ys : List Value} (hr : Reps w ρ Im cs ys) (h1 : ∀ y ∈ ys, y.oneCell' = true) :
    ∃ y, (part t ys.toArray off).run P w = .ok y w ∧ Rep w ρ Im r y := by
  unfold partOf at h
  split at h
  · rename_i ha
    obtain ⟨hz, hle, rfl⟩ := h
    have hsz := run_sizeOf' hz w
    have hx : (ys.drop off).take (tsz P t) = (ys.take (off + tsz P t)).drop off := by rw [List.take_drop]
    refine ⟨.agg ((ys.drop off).take (tsz P t)).toArray, ?_, .agg _ _ (by simp [hr.1]) (fun y hy => h1 y (List.mem_of_mem_drop (List.mem_of_mem_take hy))) fun j c y hc hy => ?_⟩
    · simp only [part, Sem.run_bind, run_isAgg' ha w, Result.andThen_ok, if_true, hsz, Sem.run_pure]
      rw [hx]; simp [List.extract_toArray, List.take_drop]
    · rw [List.getElem?_take] at hc hy
      split at hc
      · simp only [*, if_true, List.getElem?_drop] at hc hy
        exact hr.2 _ c y hc hy
      · cases hc
  · rename_i ha
    have hlt : off < ys.length := by rw [← hr.1]; exact (List.getElem?_eq_some_iff.1 h).1
    refine ⟨ys[off], ?_, hr.2 off r _ h (List.getElem?_eq_getElem hlt)⟩
    simp [part, run_isAgg' ha w, hlt]
  · exact h.elim
theorem add_none (b o i : Nat) : (⟨b, o, none⟩ : Addr).add i = ⟨b, o + i, none⟩ := by
  unfold Addr.add; split <;> simp_all
variable {E : Env} {σ : Store} {a : Act}
theorem cellsAt_sound (hinv : Inv w ρ Im σ) {x : AV} {K : List AV → Nat → Prop} {y : Value} (h : cellsAt σ x K) (hr : Rep w ρ Im x y) :
    ∃ cs j b o ys, K cs j ∧ y = .pointer (some ⟨b, o + j, none⟩) ∧ Reps w ρ Im cs ys ∧ (∀ y ∈ ys, y.oneCell' = true) ∧ ∀ i v, ys[i]? = some v → w.cell? ⟨b, o + i, none⟩ = some v := by
  unfold cellsAt at h
  split at h
  · rename_i e j
    cases hr with
    | im _ _ hr =>
      cases hr with
      | pt _ _ b o f hIm hc hrep =>
        refine ⟨e.cells, j, b, o, (List.range e.cells.length).map f, h, rfl, ⟨by simp, fun i c y hcc hy => ?_⟩, fun y hy => ?_, fun i v hv => ?_⟩
        · have hlt := (List.getElem?_eq_some_iff.1 hcc).1
          simp [hlt] at hy; subst hy
          exact .im _ _ (hrep i c hcc)
        · obtain ⟨i, hi, rfl⟩ := List.mem_map.1 hy
          exact (hc i (by simpa using hi)).2
        · have hlt := (List.getElem?_eq_some_iff.1 hv).1
          simp at hlt
          simp [hlt] at hv; subst hv
          exact (hc i hlt).1
  · rename_i id sz i j
    obtain ⟨k, hk, hsz, e, he, hK⟩ := h
    cases hr with
    | im _ _ hr => cases hr
    | ptr _ _ _ _ b hρ hz =>
      obtain ⟨cur, hb, hlen, hle, hc⟩ := hinv.blk id k b hk hρ (by rw [hsz]; exact hz)
      subst hsz
      have hel := hlen e (List.mem_of_getElem? he)
      have hall : ∀ j', j' < e.cells.length → ∃ x, cur[i * k.sz + j']? = some x ∧ x.oneCell' = true ∧ ∃ c, e.cells[j']? = some c ∧ Rep w ρ Im c x := fun j' hj' => by
        obtain ⟨x, hx, h1, hr⟩ := hc i e j' e.cells[j'] he (List.getElem?_eq_getElem hj')
        exact ⟨x, hx, h1, _, List.getElem?_eq_getElem hj', hr⟩
      refine ⟨e.cells, j, b, i * k.sz, (List.range e.cells.length).map fun j' => (cur[i * k.sz + j']?).getD undef, hK, rfl, ⟨by simp, fun j' c y hcc hy => ?_⟩, fun y hy => ?_, fun j' v hv => ?_⟩
      · have hlt := (List.getElem?_eq_some_iff.1 hcc).1
        obtain ⟨x, hx, _, c', hc', hr⟩ := hall j' hlt
        rw [hcc] at hc'; cases hc'
        simp [hlt, hx] at hy; subst hy; exact hr
      · obtain ⟨j', hj', rfl⟩ := List.mem_map.1 hy
        obtain ⟨x, hx, h1, _⟩ := hall j' (by simpa using hj')
        simpa [hx] using h1
      · have hlt := (List.getElem?_eq_some_iff.1 hv).1
        simp at hlt
        obtain ⟨x, hx, _⟩ := hall j' hlt
        simp [hlt, hx] at hv; subst hv
        rw [cells_at hb]; exact hx
  · exact h.elim
theorem load_sound {t : TypeId} {cs : List AV} {j b o : Nat} {r : AV} {ys : List Value} (h : partOf P t cs j r) (hr : Reps w ρ Im cs ys) (h1 : ∀ y ∈ ys, y.oneCell' = true)
    (hc : ∀ (i : Nat) (v : Value), ys[i]? = some v → w.cell? ⟨b, o + i, none⟩ = some v) : ∃ y, (loadVar t ⟨b, o + j, none⟩).run P w = .ok y w ∧ Rep w ρ Im r y := by
  unfold partOf at h
  split at h
  · rename_i ha
    obtain ⟨hz, hle, rfl⟩ := h
    have hl := run_loadCells_list (P := P) w ⟨b, o + j, none⟩ ((ys.drop j).take (tsz P t)) (fun i v hv => by
      rw [add_none, Nat.add_assoc]
      refine hc _ _ ?_
      rw [List.getElem?_take] at hv
      split at hv
      · simpa [List.getElem?_drop] using hv
      · cases hv)
    have hlen : ((ys.drop j).take (tsz P t)).length = tsz P t := by rw [List.length_take, List.length_drop, ← hr.1]; omega
    rw [hlen] at hl
    refine ⟨.agg ((ys.drop j).take (tsz P t)).toArray, ?_, .agg _ _ (by simp [hr.1]) (fun y hy => h1 y (List.mem_of_mem_drop (List.mem_of_mem_take hy))) fun i c y hc' hy => ?_⟩
    · simp only [loadVar, Sem.run_bind, run_isAgg' ha w, Result.andThen_ok, if_true, run_sizeOf' hz w, hl, Sem.run_pure]
    · rw [List.getElem?_take] at hc' hy
      split at hc'
      · simp only [*, if_true, List.getElem?_drop] at hc' hy
        exact hr.2 _ c y hc' hy
      · cases hc'
  · rename_i ha
    have hlt : j < ys.length := by rw [← hr.1]; exact (List.getElem?_eq_some_iff.1 h).1
    refine ⟨ys[j], ?_, hr.2 j r _ h (List.getElem?_eq_getElem hlt)⟩
    have := hc j ys[j] (List.getElem?_eq_getElem hlt)
    simp [loadVar, run_isAgg' ha w, load, Sem.run, this]
  · exact h.elim
theorem ofC_rep (x : Value) : Rep w ρ Im (ofC x) x := by
  unfold ofC
  split
  · rename_i cs
    split
    · rename_i h
      have := IRep.agg (w := w) (Im := Im) (cs.toList.map .v) cs.toList (by simp) (List.all_eq_true.1 h) fun j c y hc hy => by
        rw [List.getElem?_map, hy] at hc; simp at hc; subst hc; exact .v y
      exact .im _ _ (by simpa using this)
    · exact .im _ _ (.any _)
  · rename_i vs
    have := IRep.tup (w := w) (Im := Im) (vs.toList.map .v) vs.toList (by simp) fun j c y hc hy => by
      rw [List.getElem?_map, hy] at hc; simp at hc; subst hc; exact .v y
    exact .im _ _ (by simpa using this)
  · exact .im _ _ (.v _)
def Operand.low (N : Nat) : Operand → Bool
  | .tmp t => decide (t < N)
  | _ => true
theorem ev_rep (henv : EnvRep w ρ Im E a.tmps) {x : Operand} (hx : Operand.low a.tmps.size x = true) : Rep w ρ Im (ev E x) (a.eval x) := by
  cases x with
  | tmp t =>
    simp only [Operand.low, decide_eq_true_eq] at hx
    have h : a.tmps[t]? = some (a.tmps.getD t undef) := by simp [hx]
    exact henv t _ h
  | const v => exact ofC_rep v
  | global g => exact .im _ _ (.any _)
  | func f => exact .clo f [] [] rfl (fun j c y hc => by simp at hc)
end runs
end Go.Vai
namespace Go.Vai
open Go.RowKit
variable {P : Program} {w : World} {ρ : Nat → Option Nat} {Im : Nat → Prop} {E : Env} {σ : Store} {a : Act}
def Op.low (N : Nat) (op : Op) : Bool := op.operands.toList.all (Operand.low N)
theorem low_of {N : Nat} {op : Op} (h : Op.low N op = true) {x : Operand} (hx : x ∈ op.operands) : Operand.low N x = true := by
  unfold Op.low at h
  exact List.all_eq_true.1 h x (Array.mem_toList_iff.2 hx)
theorem bitsI_run (op : BinOp) (hop : op = .and ∨ op = .or ∨ op = .xor ∨ op = .andNot) (k : IntKind) (x y : Int) (w : World) :
    (Op.intBits op k x y).run P w = .ok (.int k (bitsI op k x y)) w := by
  rcases hop with rfl | rfl | rfl | rfl <;> rfl
theorem binI_sound {op : BinOp} {t : TypeId} {k k' : IntKind} {m n : Int} {r : AV} (h : binI op k m k' n r) (w : World) :
    ∃ y, (binOp op t (.int k m) (.int k' n)).run P w = .ok y w ∧ r = .v y := by
  unfold binI at h
  split at h
  · obtain ⟨h0, rfl⟩ := h
    exact ⟨_, by simp only [binOp, Op.shift]; rw [if_neg (by omega)]; rfl, rfl⟩
  · obtain ⟨h0, rfl⟩ := h
    exact ⟨_, by simp only [binOp, Op.shift]; rw [if_neg (by omega)]; rfl, rfl⟩
  · obtain ⟨rfl, rfl⟩ := h; exact ⟨_, by simp [binOp, Op.intArith], rfl⟩
  · obtain ⟨rfl, rfl⟩ := h; exact ⟨_, by simp [binOp, Op.intArith], rfl⟩
  · obtain ⟨rfl, rfl⟩ := h; exact ⟨_, by simp [binOp, Op.intArith], rfl⟩
  · obtain ⟨rfl, h0, rfl⟩ := h; exact ⟨_, by simp [binOp, Op.intDiv, h0], rfl⟩
  · obtain ⟨rfl, h0, rfl⟩ := h; exact ⟨_, by simp [binOp, Op.intDiv, h0], rfl⟩
  · obtain ⟨rfl, rfl⟩ := h; exact ⟨_, by simp [binOp, Op.intCmp], rfl⟩
  · obtain ⟨rfl, rfl⟩ := h; exact ⟨_, by simp [binOp, Op.intCmp], rfl⟩
  · obtain ⟨rfl, rfl⟩ := h; exact ⟨_, by simp [binOp, Op.intCmp], rfl⟩
  · obtain ⟨rfl, rfl⟩ := h; exact ⟨_, by simp [binOp, Op.intCmp], rfl⟩
  · obtain ⟨rfl, rfl⟩ := h; exact ⟨_, by simp [binOp, Op.intCmp], rfl⟩
  · obtain ⟨rfl, rfl⟩ := h; exact ⟨_, by simp [binOp, Op.intCmp], rfl⟩
  · obtain ⟨rfl, rfl⟩ := h; exact ⟨_, by simp only [binOp, ne_eq, not_true_eq_false, if_false]; exact bitsI_run .and (by simp) k m n w, rfl⟩
  · obtain ⟨rfl, rfl⟩ := h; exact ⟨_, by simp only [binOp, ne_eq, not_true_eq_false, if_false]; exact bitsI_run .or (by simp) k m n w, rfl⟩
  · obtain ⟨rfl, rfl⟩ := h; exact ⟨_, by simp only [binOp, ne_eq, not_true_eq_false, if_false]; exact bitsI_run .xor (by simp) k m n w, rfl⟩
  · obtain ⟨rfl, rfl⟩ := h; exact ⟨_, by simp only [binOp, ne_eq, not_true_eq_false, if_false]; exact bitsI_run .andNot (by simp) k m n w, rfl⟩
theorem binS_sound {op : BinOp} {t : TypeId} {m n : ByteArray} {r : AV} (h : binS op m n r) (w : World) :
    ∃ y, (binOp op t (.string m) (.string n)).run P w = .ok y w ∧ r = .v y := by
  unfold binS at h
  split at h
  · obtain ⟨h0, rfl⟩ := h
    refine ⟨_, ?_, rfl⟩
    have : ¬ ((m.size + n.size : Nat) : Int) > IntKind.i64.max := by
      have : IntKind.i64.max = 9223372036854775807 := by decide
      rw [this]; omega
    simp only [binOp, Op.stringOp, this, if_false, Sem.run_pure]
  all_goals first
    | (subst h; exact ⟨_, by simp only [binOp, Op.stringOp, Sem.run_pure], rfl⟩)
    | exact h.elim
theorem eqGuard_int {op : BinOp} {t : TypeId} {x y : Operand} {k k' : IntKind} {m n : Int} (w : World) : (eqGuard op t x y (.int k m) (.int k' n)).run P w = .ok () w := by
  unfold eqGuard; cases op <;> rfl
theorem eqGuard_string {op : BinOp} {t : TypeId} {x y : Operand} {m n : ByteArray} (w : World) : (eqGuard op t x y (.string m) (.string n)).run P w = .ok () w := by
  unfold eqGuard; cases op <;> rfl
theorem run_fieldPlace {b o off : Nat} {f : Field} (h : 0 < tsz P f.type) (ho : f.offset = off) (w : World) : (fieldPlace ⟨b, o, none⟩ f).run P w = .ok ⟨b, o + off, none⟩ w := by
  unfold fieldPlace
  simp only [Sem.run_bind, run_sizeOf' h w, Result.andThen_ok]
  rw [if_neg (by omega), Sem.run_pure, add_none, ho]
theorem tfld_of {s : TypeId} {fs : List (Nat × TypeId)} (h : tfld P s = some fs) : ∃ fa : Array Field, P.underlying s = some (.struct fa) ∧ fs = fa.toList.map fun f => (f.offset, f.type) := by
  unfold tfld at h
  split at h
  · rename_i fa hu; exact ⟨fa, hu, by simpa using h.symm⟩
  · cases h
theorem tel_of {t e : TypeId} (h : tel P t = some e) : P.underlying t = some (.slice e) := by
  unfold tel at h; split at h
  · rename_i hu; simp at h; subst h; exact hu
  · cases h
theorem tarr_of {t e : TypeId} {n : Nat} (h : tarr P t = some (n, e)) : P.underlying t = some (.array n e) := by
  unfold tarr at h; split at h
  · rename_i hu; simp at h; obtain ⟨rfl, rfl⟩ := h; exact hu
  · cases h
theorem tint_of {t : TypeId} {k : IntKind} (h : tint P t = some k) : P.underlying t = some (.int k) := by
  unfold tint at h; split at h
  · rename_i hu; simp at h; subst h; exact hu
  · cases h
theorem tstr_of {t : TypeId} (h : tstr P t = true) : P.underlying t = some .string := by
  unfold tstr at h; split at h
  · rename_i hu; exact hu
  · cases h
theorem Rep.pt_inv {e : AV} {j : Nat} {y : Value} (h : Rep w ρ Im (.pt e j) y) : ∃ b o, y = .pointer (some ⟨b, o + j, none⟩) ∧ ∀ j', Rep w ρ Im (.pt e j') (.pointer (some ⟨b, o + j', none⟩)) := by
  cases h with
  | im _ _ h => cases h with | pt _ _ b o f hIm hc hr => exact ⟨b, o, rfl, fun j' => .im _ _ (.pt e j' b o f hIm hc hr)⟩
theorem Rep.ptr_inv {id sz i j : Nat} {y : Value} (h : Rep w ρ Im (.ptr id sz i j) y) : ∃ b, y = .pointer (some ⟨b, i * sz + j, none⟩) ∧ ∀ i' j', Rep w ρ Im (.ptr id sz i' j') (.pointer (some ⟨b, i' * sz + j', none⟩)) := by
  cases h with
  | im _ _ h => cases h
  | ptr _ _ _ _ b hρ hz => exact ⟨b, rfl, fun i' j' => .ptr id sz i' j' b hρ hz⟩
theorem asInt_run {k : IntKind} {n : Int} (w : World) : (asIntOf (.int k n)).run P w = .ok (k, n) w := rfl
theorem slIdx_sound {t e : TypeId} {x r : AV} {k : IntKind} {n : Int} {y : Value} (hu : tel P t = some e) (h : slIdx P e x n r) (hr : Rep w ρ Im x y) :
    ∃ z, (Instr.indexAt t y (.int k n)).run P w = .ok z w ∧ Rep w ρ Im r z := by
  have hu := tel_of hu
  unfold slIdx at h
  split at h
  · rename_i sz es
    obtain ⟨hp, hsz, h0, c, hc, rfl⟩ := h
    have hlt := (List.getElem?_eq_some_iff.1 hc).1
    cases hr with
    | im _ _ hr =>
      cases hr with
      | slnil => simp at hlt
      | sl _ _ b o cap f hIm hcap hl hcc hrep =>
        refine ⟨.pointer (some ⟨b, o + n.toNat * sz, none⟩), ?_, ?_⟩
        · simp only [Instr.indexAt, Sem.run_bind, asInt_run, Result.andThen_ok, run_underlying hu w, Sem.run_pure]
          rw [if_pos ⟨h0, by omega⟩]
          simp only [Sem.run_bind, run_sizeOf' (hsz ▸ hp : 0 < tsz P e) w, Result.andThen_ok, Sem.run_pure, add_none, hsz]
        · have hcl := hl c (List.mem_of_getElem? hc)
          exact .im _ _ (.pt c 0 b (o + n.toNat * sz) (f n.toNat) hIm (fun i hi => hcc _ _ hlt (by omega)) (fun i c' hc' => hrep _ c i c' hc hc'))
  · rename_i id sz o m
    obtain ⟨hp, hsz, h0, hlt, rfl⟩ := h
    have go : ∀ b cap (ad : Option Addr), ρ id = some b → ad = some ⟨b, o * sz, none⟩ → y = .slice ad m cap → ∃ z, (Instr.indexAt t y (.int k n)).run P w = .ok z w ∧ Rep w ρ Im (.ptr id sz (o + n.toNat) 0) z := by
      rintro b cap _ hρ rfl rfl
      refine ⟨.pointer (some ⟨b, (o + n.toNat) * sz + 0, none⟩), ?_, .ptr id sz _ _ b hρ (by omega)⟩
      simp only [Instr.indexAt, Sem.run_bind, asInt_run, Result.andThen_ok, run_underlying hu w, Sem.run_pure]
      rw [if_pos ⟨h0, by omega⟩]
      simp only [Sem.run_bind, run_sizeOf' (hsz ▸ hp : 0 < tsz P e) w, Result.andThen_ok, Sem.run_pure, add_none, hsz, Nat.add_mul, Nat.add_zero]
    cases hr with
    | im _ _ hr => cases hr
    | ownNil => omega
    | own _ _ _ b cap cur e' hρ hn hcap hb hs _ => exact go b cap _ hρ (by simp) rfl
    | ownAt _ _ _ _ b cap ad hi hρ hn ha _ => exact go b cap ad hρ (ha (by omega)) rfl
  · exact h.elim
theorem lenV_sound {x : AV} {n : Nat} {y : Value} (h : lenV x = some n) (hr : Rep w ρ Im x y) : (∃ ad cap, y = .slice ad n cap) ∨ ∃ s : ByteArray, y = .string s ∧ s.size = n ∧ x = .v (.string s) := by
  unfold lenV at h
  split at h
  · simp at h; subst h
    cases hr with
    | im _ _ hr =>
      cases hr with
      | slnil sz ad cap => exact .inl ⟨ad, cap, rfl⟩
      | sl => exact .inl ⟨_, _, rfl⟩
  · simp at h; subst h
    cases hr with
    | im _ _ hr => cases hr
    | ownNil => exact .inl ⟨_, _, rfl⟩
    | own => exact .inl ⟨_, _, rfl⟩
    | ownAt => exact .inl ⟨_, _, rfl⟩
  · rename_i s; simp at h; have := hr.v_inv; subst this; exact .inr ⟨s, rfl, h, rfl⟩
  · simp at h; subst h; have := hr.v_inv; subst this; exact .inl ⟨_, _, rfl⟩
  · cases h
theorem slCut_sound {e : TypeId} {x r : AV} {lo hi : Nat} {y : Value} (h : slCut P e x lo hi r) (hr : Rep w ρ Im x y) :
    ∃ ad n cap, y = .slice ad n cap ∧ lenV x = some n ∧ lo ≤ hi ∧ hi ≤ n ∧ n ≤ cap ∧ 0 < tsz P e ∧ Rep w ρ Im r (.slice (if cap = lo then ad else ad.map (·.add (lo * tsz P e))) (hi - lo) (cap - lo)) := by
  unfold slCut at h
  split at h
  · rename_i sz es
    obtain ⟨hp, hsz, h1, h2, rfl⟩ := h
    cases hr with
    | im _ _ hr =>
      cases hr with
      | slnil _ ad cap =>
        simp at h2; subst h2; simp at h1; subst h1
        exact ⟨ad, 0, cap, rfl, rfl, Nat.le_refl _, Nat.le_refl _, Nat.zero_le _, hsz ▸ hp, .im _ _ (.slnil ..)⟩
      | sl _ _ b o cap f hIm hcap hl hcc hrep =>
        refine ⟨_, es.length, cap, rfl, rfl, h1, h2, hcap, hsz ▸ hp, ?_⟩
        by_cases hh : hi = lo
        · subst hh; simp; exact .im _ _ (.slnil ..)
        · rw [if_neg (by omega)]
          have hlen : ((es.drop lo).take (hi - lo)).length = hi - lo := by rw [List.length_take, List.length_drop]; omega
          have := IRep.sl (w := w) (Im := Im) sz ((es.drop lo).take (hi - lo)) b (o + lo * sz) (cap - lo) (fun i j => f (lo + i) j) hIm (by rw [hlen]; omega) (fun e he => hl e (List.mem_of_mem_drop (List.mem_of_mem_take he)))
            (fun i j hi' hj => by
              rw [hlen] at hi'
              have := hcc (lo + i) j (by omega) hj
              rw [show o + lo * sz + i * sz + j = o + (lo + i) * sz + j from by rw [Nat.add_mul]; omega]
              exact this)
            (fun i e' j c he hc => by
              rw [List.getElem?_take] at he
              split at he
              · rw [List.getElem?_drop] at he; exact hrep _ e' j c he hc
              · cases he)
          rw [hlen] at this
          simpa [add_none, hsz] using Rep.im (ρ := ρ) _ _ this
  · rename_i id sz o n
    obtain ⟨hp, hsz, h1, h2, rfl⟩ := h
    cases hr with
    | im _ _ hr => cases hr
    | ownNil _ _ hρ =>
      have e1 : hi = 0 := by omega
      have e2 : lo = 0 := by omega
      subst e1; subst e2
      exact ⟨none, 0, 0, rfl, rfl, Nat.le_refl _, Nat.le_refl _, Nat.le_refl _, hsz ▸ hp, by simpa using Rep.ownNil id sz hρ⟩
    | own _ _ _ b cap cur e' hρ hn hcap hb hs =>
      refine ⟨_, n, cap, rfl, rfl, h1, h2, hn, hsz ▸ hp, ?_⟩
      by_cases hlo : lo = 0
      · subst hlo
        simp only [Nat.zero_mul, Nat.add_zero, Nat.sub_zero]
        have : (if cap = 0 then some (⟨b, 0, none⟩ : Addr) else (some (⟨b, 0, none⟩ : Addr)).map (·.add 0)) = some ⟨b, 0, none⟩ := by split <;> simp [Addr.add]
        rw [this]
        exact .own id sz hi b cap cur e' hρ (by omega) hcap hb hs (by omega)
      · refine .ownAt id sz (0 + lo) (hi - lo) b (cap - lo) _ (by omega) hρ (by omega) (fun hne => ?_) (by omega)
        rw [if_neg (by omega)]; simp [add_none, hsz]
    | ownAt _ _ _ _ b cap ad hi' hρ hn ha =>
      refine ⟨ad, n, cap, rfl, rfl, h1, h2, hn, hsz ▸ hp, .ownAt id sz (o + lo) (hi - lo) b (cap - lo) _ (by omega) hρ (by omega) (fun hne => ?_) (by omega)⟩
      rw [if_neg (by omega), ha (by omega)]; simp [add_none, hsz, Nat.add_mul]
  · exact h.elim
theorem bound_sound {x : Option Operand} {dflt : Nat} {K : Nat → Prop} (h : bound E x dflt K) (hx : ∀ o, x = some o → Rep w ρ Im (ev E o) (a.eval o)) :
    ∃ n, K n ∧ ((x = none ∧ n = dflt) ∨ ∃ o k, x = some o ∧ a.eval o = .int k (n : Int)) := by
  unfold bound at h
  split at h
  · exact ⟨dflt, h, .inl ⟨rfl, rfl⟩⟩
  · rename_i o
    split at h
    · rename_i k n he
      obtain ⟨h0, hK⟩ := h
      have := hx o rfl
      rw [he] at this
      exact ⟨n.toNat, hK, .inr ⟨o, k, rfl, by rw [this.v_inv, Int.toNat_of_nonneg h0]⟩⟩
    · exact h.elim
theorem run_sliceBound {k : IntKind} {n m : Nat} {code : BoundsCode} (h : n ≤ m) (w : World) : (Instr.sliceBound (.int k (n : Int)) m code).run P w = .ok n w := by
  simp only [Instr.sliceBound, Sem.run_bind, asInt_run, Result.andThen_ok]
  rw [if_pos ⟨by omega, by omega⟩]; simp
end Go.Vai
namespace Go.Vai
open Go.RowKit
variable {P : Program} {w : World} {ρ : Nat → Option Nat} {Im : Nat → Prop} {E : Env} {σ : Store} {a : Act}
theorem atom_one {v : AV} {y : Value} (h : v.atom = true) (hr : Rep w ρ Im v y) : y.oneCell' = true := by
  cases v with
  | v x => rw [hr.v_inv]; exact h
  | any => simp [AV.atom] at h
  | agg => simp [AV.atom] at h
  | new => simp [AV.atom] at h
  | nptr => simp [AV.atom] at h
  | yld => simp [AV.atom] at h
  | tup => simp [AV.atom] at h
  | cut => simp [AV.atom] at h
  | sl => cases hr with | im _ _ hr => cases hr <;> rfl
  | pt => cases hr with | im _ _ hr => cases hr <;> rfl
  | own => cases hr with
    | im _ _ hr => cases hr
    | _ => rfl
  | ptr => cases hr with
    | im _ _ hr => cases hr
    | _ => rfl
  | mp => cases hr with | im _ _ hr => cases hr <;> rfl
  | mref => cases hr with
    | im _ _ hr => cases hr
    | _ => rfl
  | clo => obtain ⟨ys, rfl, _⟩ := hr.clo_inv; obtain ⟨a, b, e⟩ := mkF_func _ ys; rw [e]; rfl
theorem cells_rep {v : AV} {y : Value} (h : v.ok = true) (hr : Rep w ρ Im v y) : ∃ ys : List Value, y.cells = ys.toArray ∧ Reps w ρ Im v.cells ys ∧ ∀ z ∈ ys, z.oneCell' = true := by
  have single : v.atom = true → v.cells = [v] → ∃ ys : List Value, y.cells = ys.toArray ∧ Reps w ρ Im v.cells ys ∧ ∀ z ∈ ys, z.oneCell' = true := fun ha hc => by
    have h1 := atom_one ha hr
    refine ⟨[y], ?_, ⟨by rw [hc]; rfl, fun j c z hj hz => ?_⟩, by simpa using h1⟩
    · cases y <;> first | rfl | (simp [Value.oneCell'] at h1)
    · rw [hc] at hj
      cases j with
      | zero => simp at hj hz; subst hj; subst hz; exact hr
      | succ j => simp at hj
  cases v with
  | agg cs =>
    obtain ⟨ys, rfl, hl, h1, hh⟩ := hr.agg_inv
    exact ⟨ys, rfl, ⟨hl, hh⟩, h1⟩
  | _ => exact single h rfl
theorem splice_get (off : Nat) : ∀ (l : List Value) (i : Nat) (cells : Array Value), off + i + l.length ≤ cells.size → ∀ k,
    ((l.zipIdx i).foldl (fun (cs : Array Value) (x : Value × Nat) => cs.setIfInBounds (off + x.2) x.1) cells)[k]? = if off + i ≤ k ∧ k < off + i + l.length then l[k - (off + i)]? else cells[k]?
  | [], i, cells, _, k => by simp; intro h1 h2; omega
  | x :: l, i, cells, h, k => by
    simp only [List.zipIdx_cons, List.foldl_cons, List.length_cons] at h ⊢
    rw [splice_get off l (i + 1) (cells.setIfInBounds (off + i) x) (by rw [Array.size_setIfInBounds]; omega) k]
    by_cases h1 : off + (i + 1) ≤ k ∧ k < off + (i + 1) + l.length
    · rw [if_pos h1, if_pos (by omega), show k - (off + i) = (k - (off + (i + 1))) + 1 from by omega]; simp
    · rw [if_neg h1]
      by_cases h2 : k = off + i
      · subst h2; rw [if_pos (by omega), Array.getElem?_setIfInBounds_self_of_lt (by omega)]; simp
      · rw [if_neg (by omega), Array.getElem?_setIfInBounds_ne (by omega)]
def Pairs (w : World) (ρ : Nat → Option Nat) (Im : Nat → Prop) : List (Nat × AV) → List (Nat × Value) → Prop
  | [], [] => True
  | (i, v) :: r, (j, y) :: s => i = j ∧ Rep w ρ Im v y ∧ Pairs w ρ Im r s
  | _, _ => False
theorem fill_sound {place : Nat → Option (Nat × Nat)} : ∀ (pa : List (Nat × AV)) (pv : List (Nat × Value)) (cs cs' : List AV) (ys : List Value), Pairs w ρ Im pa pv → fillA place cs pa = some cs' →
    Reps w ρ Im cs ys → (∀ y ∈ ys, y.oneCell' = true) → ∃ ys' : List Value, Instr.fill place ys.toArray pv = some ys'.toArray ∧ Reps w ρ Im cs' ys' ∧ ∀ y ∈ ys', y.oneCell' = true
  | [], [], cs, cs', ys, _, hf, hr, h1 => by simp [fillA] at hf; subst hf; exact ⟨ys, rfl, hr, h1⟩
  | [], _ :: _, _, _, _, hp, _, _, _ => by simp [Pairs] at hp
  | _ :: _, [], _, _, _, hp, _, _, _ => by simp [Pairs] at hp
  | (i, v) :: r, (j, y) :: s, cs, cs', ys, hp, hf, hr, h1 => by
    obtain ⟨rfl, hv, hp⟩ := hp
    simp only [fillA] at hf
    cases hpl : place i with
    | none => simp [hpl] at hf
    | some q =>
      obtain ⟨off, size⟩ := q
      simp only [hpl] at hf
      split at hf
      · rename_i hc
        obtain ⟨hl, hle, hok⟩ := hc
        obtain ⟨zs, hy, hrz, hz1⟩ := cells_rep hok hv
        have hzl : zs.length = size := by rw [← hrz.1]; exact hl
        have hyl : ys.length = cs.length := hr.1.symm
        have hnew : (y.cells.zipIdx.foldl (fun cs (x : Value × Nat) => cs.setIfInBounds (off + x.2) x.1) ys.toArray) = (ys.take off ++ zs ++ ys.drop (off + size)).toArray := by
          rw [hy]
          have hfold : (zs.toArray.zipIdx.foldl (fun (cs : Array Value) (x : Value × Nat) => cs.setIfInBounds (off + x.2) x.1) ys.toArray) = ((zs.zipIdx 0).foldl (fun (cs : Array Value) (x : Value × Nat) => cs.setIfInBounds (off + x.2) x.1) ys.toArray) := by simp
          rw [hfold]
          apply Array.ext_getElem?
          intro k
          rw [splice_get off zs 0 _ (by simp; omega)]
          simp only [Nat.add_zero, List.getElem?_toArray]
          by_cases hk : off ≤ k ∧ k < off + zs.length
          · rw [if_pos hk, List.getElem?_append_left (by simp; omega), List.getElem?_append_right (by simp; omega)]
            simp [List.length_take, Nat.min_eq_left (show off ≤ ys.length by omega)]
          · rw [if_neg hk]
            by_cases hk2 : k < off
            · rw [List.append_assoc, List.getElem?_append_left (by simp; omega), List.getElem?_take, if_pos hk2]
            · rw [List.getElem?_append_right (by simp; omega), List.getElem?_drop]
              congr 1; simp [Nat.min_eq_left (show off ≤ ys.length by omega)]; omega
        have q1 : Reps w ρ Im (cs.take off ++ v.cells ++ cs.drop (off + size)) (ys.take off ++ zs ++ ys.drop (off + size)) := by
          refine ⟨by simp [hl, hzl, hyl], fun k c z hk hz => ?_⟩
          by_cases hk1 : k < off
          · rw [List.append_assoc, List.getElem?_append_left (by simp; omega), List.getElem?_take, if_pos hk1] at hk hz
            exact hr.2 k c z hk hz
          · by_cases hk2 : k < off + size
            · rw [List.getElem?_append_left (by simp; omega), List.getElem?_append_right (by simp; omega)] at hk hz
              simp only [List.length_take, Nat.min_eq_left (show off ≤ cs.length by omega)] at hk
              simp only [List.length_take, Nat.min_eq_left (show off ≤ ys.length by omega)] at hz
              exact hrz.2 _ c z hk hz
            · rw [List.getElem?_append_right (by simp; omega), List.getElem?_drop] at hk hz
              simp only [List.length_append, List.length_take, Nat.min_eq_left (show off ≤ cs.length by omega), hl] at hk
              simp only [List.length_append, List.length_take, Nat.min_eq_left (show off ≤ ys.length by omega), hzl] at hz
              exact hr.2 _ c z hk hz
        have q2 : ∀ z ∈ ys.take off ++ zs ++ ys.drop (off + size), z.oneCell' = true := by
          intro z hz
          simp only [List.mem_append] at hz
          rcases hz with (hz | hz) | hz
          · exact h1 z (List.mem_of_mem_take hz)
          · exact hz1 z hz
          · exact h1 z (List.mem_of_mem_drop hz)
        obtain ⟨ys', hfill, hr', h1'⟩ := fill_sound r s _ cs' _ hp hf q1 q2
        refine ⟨ys', ?_, hr', h1'⟩
        have hsz : y.cells.size = size := by rw [hy]; simpa using hzl
        have hng : ¬ (off + size > ys.toArray.size) := by simp; omega
        simp only [Instr.fill, hpl, hsz, ne_eq, not_true_eq_false, decide_false, Bool.false_or, hng, Bool.false_eq_true, if_false]
        rw [hnew]; exact hfill
      · cases hf
theorem tz_of {t : TypeId} {z : Value} (h : tz P t = some z) : ∃ i, P.info? t = some i ∧ i.zero = some z ∧ i.size = tsz P t ∧ i.bytes = tby P t := by
  unfold tz at h
  cases hi : P.info? t with
  | none => simp [hi] at h
  | some i => simp [hi] at h; exact ⟨i, rfl, h, by simp [tsz, hi], by simp [tby, hi]⟩
theorem run_zero {t : TypeId} {z : Value} (h : tz P t = some z) (w : World) : (zeroValue t).run P w = .ok z w := by
  obtain ⟨i, hi, hz, _⟩ := tz_of h
  simp [zeroValue, typeInfo, hi, hz]
theorem Value.cells_ofC {z : Value} (h : (ofC z).ok = true) : ∃ ys : List Value, z.cells = ys.toArray ∧ (ofC z).cells.length = ys.length ∧ (∀ y ∈ ys, y.oneCell' = true) ∧ ∀ (w : World) (ρ : Nat → Option Nat) (Im : Nat → Prop), Reps w ρ Im (ofC z).cells ys := by
  obtain ⟨ys, h1, h2, h3⟩ := cells_rep (w := default) (ρ := fun _ => none) (Im := fun _ => False) h (ofC_rep z)
  refine ⟨ys, h1, h2.1, h3, fun w ρ Im => ?_⟩
  obtain ⟨ys', h1', h2', _⟩ := cells_rep (w := w) (ρ := ρ) (Im := Im) h (ofC_rep z)
  rw [h1] at h1'
  have : ys = ys' := by simpa using h1'
  rw [this]; exact h2'
theorem pairs_of (h : EnvRep w ρ Im E a.tmps) : ∀ (l : List (Nat × Operand)), (∀ p ∈ l, Operand.low a.tmps.size p.2 = true) → Pairs w ρ Im (l.map fun p => (p.1, ev E p.2)) (l.map fun p => (p.1, a.eval p.2))
  | [], _ => trivial
  | p :: l, hl => ⟨rfl, ev_rep h (hl p (by simp)), pairs_of h l fun q hq => hl q (by simp [hq])⟩
theorem tkind_run {t : TypeId} {k : Nat} (h : tkind P t = some k) : (k = 0 ∧ ∃ q, P.underlying t = some (.int q)) ∨ (k = 1 ∧ P.underlying t = some .bool) ∨ (k = 2 ∧ P.underlying t = some .string) := by
  unfold tkind at h
  split at h
  · rename_i q hu; simp at h; exact .inl ⟨h.symm, q, hu⟩
  · rename_i hu; simp at h; exact .inr (.inl ⟨h.symm, hu⟩)
  · rename_i hu; simp at h; exact .inr (.inr ⟨h.symm, hu⟩)
  · cases h
theorem part_scalar {t : TypeId} {xs : List Value} {i : Nat} {y : Value} (hu : (isAgg t).run P w = .ok false w) (h : xs[i]? = some y) : (part t xs.toArray i).run P w = .ok y w := by
  simp only [part, Sem.run_bind, hu, Result.andThen_ok, Bool.false_eq_true, if_false]
  simp [h]
theorem eqK_sound (d : Nat) : ∀ (fs : List Field) (i : Nat) (ks : List Nat) (cs ds : List AV) (b : Bool) (xs ys : List Value), fieldKinds P i fs = some ks → eqK ks (cs.drop i) (ds.drop i) = some b →
    Reps w ρ Im cs xs → Reps w ρ Im ds ys → (Op.eqFields (d + 1) xs.toArray ys.toArray fs).run P w = .ok b w
  | [], i, ks, cs, ds, b, xs, ys, hk, he, _, _ => by
    simp [fieldKinds] at hk; subst hk
    unfold eqK at he
    split at he <;> simp_all [Op.eqFields]
  | f :: fs, i, ks, cs, ds, b, xs, ys, hk, he, hx, hy => by
    simp only [fieldKinds] at hk
    split at hk
    · rename_i hf
      simp only [Bool.and_eq_true, bne_iff_ne, ne_eq, beq_iff_eq] at hf
      obtain ⟨hname, hoff⟩ := hf
      cases hkk : tkind P f.type with
      | none => simp [hkk] at hk
      | some k =>
        simp only [hkk, Option.bind_some, Option.map_eq_some_iff] at hk
        obtain ⟨ks', hks, rfl⟩ := hk
        -- the heads
        have head : ∀ (zs : List AV) (us : List Value), Reps w ρ Im zs us → ∀ c r, zs.drop i = c :: r → ∃ u, us[i]? = some u ∧ Rep w ρ Im c u ∧ zs.drop (i + 1) = r := fun zs us hr c r hd => by
          have hc : zs[i]? = some c := by have := List.getElem?_drop (xs := zs) (i := i) (j := 0); rw [hd] at this; simpa using this.symm
          have hlt : i < us.length := by rw [← hr.1]; exact (List.getElem?_eq_some_iff.1 hc).1
          exact ⟨us[i], List.getElem?_eq_getElem hlt, hr.2 i c _ hc (List.getElem?_eq_getElem hlt), by rw [show zs.drop (i + 1) = (zs.drop i).drop 1 from by rw [List.drop_drop], hd]; rfl⟩
        have fin : ∀ (u v : Value) (q : Bool) (r s : List AV) (b' : Bool), xs[i]? = some u → ys[i]? = some v → (isAgg f.type).run P w = .ok false w → (Op.equalIn (d + 1) f.type u v).run P w = .ok q w →
            cs.drop (i + 1) = r → ds.drop (i + 1) = s → eqK ks' r s = some b' → b = (q && b') → (Op.eqFields (d + 1) xs.toArray ys.toArray (f :: fs)).run P w = .ok b w := by
          rintro u v q r s b' hu hv ha hq rfl rfl hb' rfl
          have ih := eqK_sound d fs (i + 1) ks' cs ds b' xs ys hks hb' hx hy
          simp only [Op.eqFields, ne_eq, hname, not_false_eq_true, if_true, Sem.run_bind, hoff, part_scalar ha hu, part_scalar ha hv, Result.andThen_ok, hq]
          cases q
          · simp
          · simpa using ih
        have agg : ∀ dd, P.underlying f.type = some dd → (match dd with | .struct _ => False | .array _ _ => False | _ => True) → (isAgg f.type).run P w = .ok false w := fun dd hu hd => by
          unfold isAgg; rw [Sem.run_bind, run_underlying hu w]; cases dd <;> simp_all
        rcases tkind_run hkk with ⟨rfl, q, hu⟩ | ⟨rfl, hu⟩ | ⟨rfl, hu⟩
        · generalize hcd : cs.drop i = zc at he
          generalize hdd : ds.drop i = zd at he
          unfold eqK at he
          split at he
          · simp_all
          · rename_i ks2 k1 m r k2 n s e1 
            simp only [List.cons.injEq, true_and] at e1; subst e1
            split at he
            · rename_i hkeq; subst hkeq
              simp only [Option.map_eq_some_iff] at he
              obtain ⟨b', hb', rfl⟩ := he
              obtain ⟨u, hu1, hu2, hu3⟩ := head cs xs hx _ _ hcd
              obtain ⟨v, hv1, hv2, hv3⟩ := head ds ys hy _ _ hdd
              have hu2 := hu2.v_inv; have hv2 := hv2.v_inv
              subst hu2; subst hv2
              exact fin _ _ _ r s b' hu1 hv1 (agg _ hu trivial) (run_equalIn_int w d f.type k1 q m n hu) hu3 hv3 hb' rfl
            · cases he
          · simp_all
          · simp_all
          · cases he
        · generalize hcd : cs.drop i = zc at he
          generalize hdd : ds.drop i = zd at he
          unfold eqK at he
          split at he
          · simp_all
          · simp_all
          · rename_i ks2 m r n s e1
            simp only [List.cons.injEq, true_and] at e1; subst e1
            simp only [Option.map_eq_some_iff] at he
            obtain ⟨b', hb', rfl⟩ := he
            obtain ⟨u, hu1, hu2, hu3⟩ := head cs xs hx _ _ hcd
            obtain ⟨v, hv1, hv2, hv3⟩ := head ds ys hy _ _ hdd
            have hu2 := hu2.v_inv; have hv2 := hv2.v_inv
            subst hu2; subst hv2
            exact fin _ _ _ r s b' hu1 hv1 (agg _ hu trivial) (run_equalIn_bool' w d f.type m n hu) hu3 hv3 hb' rfl
          · simp_all
          · cases he
        · generalize hcd : cs.drop i = zc at he
          generalize hdd : ds.drop i = zd at he
          unfold eqK at he
          split at he
          · simp_all
          · simp_all
          · simp_all
          · rename_i ks2 m r n s e1
            simp only [List.cons.injEq, true_and] at e1; subst e1
            simp only [Option.map_eq_some_iff] at he
            obtain ⟨b', hb', rfl⟩ := he
            obtain ⟨u, hu1, hu2, hu3⟩ := head cs xs hx _ _ hcd
            obtain ⟨v, hv1, hv2, hv3⟩ := head ds ys hy _ _ hdd
            have hu2 := hu2.v_inv; have hv2 := hv2.v_inv
            subst hu2; subst hv2
            exact fin _ _ _ r s b' hu1 hv1 (agg _ hu trivial) (run_equalIn_string w d f.type m n hu) hu3 hv3 hb' rfl
          · cases he
    · cases hk
end Go.Vai
namespace Go.Vai
open Go.RowKit
theorem eqK_app : ∀ (k1 k2 : List Nat) (cs ds : List AV) (b : Bool), eqK (k1 ++ k2) cs ds = some b → ∃ b1 b2, eqK k1 (cs.take k1.length) (ds.take k1.length) = some b1 ∧ eqK k2 (cs.drop k1.length) (ds.drop k1.length) = some b2 ∧ b = (b1 && b2) ∧ k1.length ≤ cs.length ∧ k1.length ≤ ds.length
  | [], k2, cs, ds, b, h => ⟨true, b, by simp [eqK], by simpa using h, by simp, by simp, by simp⟩
  | k :: k1, k2, cs, ds, b, h => by
    rw [List.cons_append] at h
    unfold eqK at h
    split at h
    · simp_all
    · rename_i ks k' a r k'' a' s e
      simp only [List.cons.injEq] at e
      obtain ⟨rfl, rfl⟩ := e
      split at h
      · rename_i hk
        simp only [Option.map_eq_some_iff] at h
        obtain ⟨b', hb, rfl⟩ := h
        obtain ⟨b1, b2, h1, h2, rfl, h3, h4⟩ := eqK_app k1 k2 r s b' hb
        exact ⟨(a == a') && b1, b2, by simp [eqK, hk, h1], by simpa using h2, by simp [Bool.and_assoc], by simpa using h3, by simpa using h4⟩
      · cases h
    · rename_i ks a r a' s e
      simp only [List.cons.injEq] at e
      obtain ⟨rfl, rfl⟩ := e
      simp only [Option.map_eq_some_iff] at h
      obtain ⟨b', hb, rfl⟩ := h
      obtain ⟨b1, b2, h1, h2, rfl, h3, h4⟩ := eqK_app k1 k2 r s b' hb
      exact ⟨(a == a') && b1, b2, by simp [eqK, h1], by simpa using h2, by simp [Bool.and_assoc], by simpa using h3, by simpa using h4⟩
    · rename_i ks a r a' s e
      simp only [List.cons.injEq] at e
      obtain ⟨rfl, rfl⟩ := e
      simp only [Option.map_eq_some_iff] at h
      obtain ⟨b', hb, rfl⟩ := h
      obtain ⟨b1, b2, h1, h2, rfl, h3, h4⟩ := eqK_app k1 k2 r s b' hb
      exact ⟨(a.toList == a'.toList) && b1, b2, by simp [eqK, h1], by simpa using h2, by simp [Bool.and_assoc], by simpa using h3, by simpa using h4⟩
    · cases h
section
variable {P : Program} {w : World}
theorem part_agg {t : TypeId} {xs : List Value} {i : Nat} (hu : (isAgg t).run P w = .ok true w) (hs : 0 < tsz P t) (hl : i + tsz P t ≤ xs.length) : (part t xs.toArray i).run P w = .ok (.agg ((xs.drop i).take (tsz P t)).toArray) w := by
  simp only [part, Sem.run_bind, hu, Result.andThen_ok, if_true, run_sizeOf' hs, Sem.run_pure]
  congr 2
  apply Array.toList_inj.1
  simp [Nat.add_sub_cancel_left]
end
section
variable {P : Program} {w : World} {ρ : Nat → Option Nat} {Im : Nat → Prop}
theorem Reps.cut {cs : List AV} {xs : List Value} (h : Reps w ρ Im cs xs) (i n : Nat) : Reps w ρ Im ((cs.drop i).take n) ((xs.drop i).take n) :=
  ⟨by simp [h.1], fun j c y hc hy => by
    have hj : j < n := by have := (List.getElem?_eq_some_iff.1 hc).1; simp at this; omega
    rw [List.getElem?_take, if_pos hj, List.getElem?_drop] at hc hy
    exact h.2 _ c y hc hy⟩
theorem tk_eq {t : TypeId} {k : Nat} {c c' : AV} {b : Bool} {u v : Value} (hk : tkind P t = some k) (he : eqK [k] [c] [c'] = some b) (hu : Rep w ρ Im c u) (hv : Rep w ρ Im c' v) (d : Nat) : (isAgg t).run P w = .ok false w ∧ (Op.equalIn (d + 1) t u v).run P w = .ok b w := by
  have agg : ∀ dd, P.underlying t = some dd → (match dd with | .struct _ => False | .array _ _ => False | _ => True) → (isAgg t).run P w = .ok false w := fun dd hu hd => by
    unfold isAgg; rw [Sem.run_bind, run_underlying hu w]; cases dd <;> simp_all
  unfold eqK at he
  split at he
  · simp_all
  · rename_i h1 h2 h3
    simp only [List.cons.injEq] at h1 h2 h3
    obtain ⟨rfl, rfl⟩ := h1
    obtain ⟨rfl, rfl⟩ := h2
    obtain ⟨rfl, rfl⟩ := h3
    split at he
    · rename_i hq; subst hq
      simp [eqK] at he
      subst he
      have hu := hu.v_inv; have hv := hv.v_inv
      subst hu; subst hv
      rcases tkind_run hk with ⟨_, q, hut⟩ | ⟨h, _⟩ | ⟨h, _⟩
      · exact ⟨agg _ hut trivial, run_equalIn_int w d t _ q _ _ hut⟩
      · cases h
      · cases h
    · cases he
  · rename_i h1 h2 h3
    simp only [List.cons.injEq] at h1 h2 h3
    obtain ⟨rfl, rfl⟩ := h1
    obtain ⟨rfl, rfl⟩ := h2
    obtain ⟨rfl, rfl⟩ := h3
    simp [eqK] at he
    subst he
    have hu := hu.v_inv; have hv := hv.v_inv
    subst hu; subst hv
    rcases tkind_run hk with ⟨h, _⟩ | ⟨_, hut⟩ | ⟨h, _⟩
    · cases h
    · exact ⟨agg _ hut trivial, run_equalIn_bool' w d t _ _ hut⟩
    · cases h
  · rename_i h1 h2 h3
    simp only [List.cons.injEq] at h1 h2 h3
    obtain ⟨rfl, rfl⟩ := h1
    obtain ⟨rfl, rfl⟩ := h2
    obtain ⟨rfl, rfl⟩ := h3
    simp [eqK] at he
    subst he
    have hu := hu.v_inv; have hv := hv.v_inv
    subst hu; subst hv
    rcases tkind_run hk with ⟨h, _⟩ | ⟨h, _⟩ | ⟨_, hut⟩
    · cases h
    · cases h
    · exact ⟨agg _ hut trivial, run_equalIn_string w d t _ _ hut⟩
  · cases he
theorem eqK_sound2 (d : Nat) : ∀ (fs : List Field) (i : Nat) (ks : List Nat) (cs ds : List AV) (b : Bool) (xs ys : List Value), fieldKinds2 P i fs = some ks → eqK ks (cs.drop i) (ds.drop i) = some b →
    Reps w ρ Im cs xs → Reps w ρ Im ds ys → (Op.eqFields (d + 2) xs.toArray ys.toArray fs).run P w = .ok b w
  | [], i, ks, cs, ds, b, xs, ys, hk, he, _, _ => by
    simp [fieldKinds2] at hk; subst hk
    unfold eqK at he
    split at he <;> simp_all [Op.eqFields]
  | f :: fs, i, ks, cs, ds, b, xs, ys, hk, he, hx, hy => by
    simp only [fieldKinds2] at hk
    split at hk
    · rename_i hf
      have hf' := hf
      simp only [Bool.and_eq_true, bne_iff_ne, ne_eq, beq_iff_eq] at hf
      obtain ⟨hname, hoff⟩ := hf
      cases hkk : tkind P f.type with
      | some k =>
        simp only [hkk, Option.map_eq_some_iff] at hk
        obtain ⟨ks', hks, rfl⟩ := hk
        obtain ⟨b1, b2, h1, h2, rfl, h3, h4⟩ := eqK_app [k] ks' _ _ b he
        rw [List.length_singleton, List.drop_drop] at h2
        rw [List.length_singleton] at h1
        rw [List.drop_drop] at h2
        have ih := eqK_sound2 d fs (i + 1) ks' cs ds b2 xs ys hks h2 hx hy
        rw [List.length_singleton, List.length_drop] at h3 h4
        have hci : cs[i]? = some cs[i] := List.getElem?_eq_getElem (by omega)
        have hdi : ds[i]? = some ds[i] := List.getElem?_eq_getElem (by omega)
        have hxi : xs[i]? = some (xs[i]'(by have := hx.1; omega)) := List.getElem?_eq_getElem _
        have hyi : ys[i]? = some (ys[i]'(by have := hy.1; omega)) := List.getElem?_eq_getElem _
        rw [List.drop_eq_getElem_cons (show i < cs.length by omega), List.drop_eq_getElem_cons (show i < ds.length by omega), List.take_succ_cons, List.take_succ_cons, List.take_zero, List.take_zero] at h1
        obtain ⟨ha, hq⟩ := tk_eq hkk h1 (hx.2 i _ _ hci hxi) (hy.2 i _ _ hdi hyi) (d + 1)
        simp only [Op.eqFields, ne_eq, hname, not_false_eq_true, if_true, Sem.run_bind, hoff, part_scalar ha hxi, part_scalar ha hyi, Result.andThen_ok, hq]
        cases b1
        · simp
        · simpa using ih
      | none =>
        simp only [hkk] at hk
        split at hk
        · rename_i gs hu
          split at hk
          · cases hk
          · rename_i hst
            cases hk1 : fieldKinds P 0 gs.toList with
            | none => simp [hk1] at hk
            | some ks1 =>
              simp only [hk1, Option.bind_some] at hk
              split at hk
              · rename_i hn
                simp only [Option.map_eq_some_iff] at hk
                obtain ⟨ks', hks, rfl⟩ := hk
                obtain ⟨b1, b2, h1, h2, rfl, h3, h4⟩ := eqK_app ks1 ks' _ _ b he
                rw [List.drop_drop, List.drop_drop] at h2
                have ih := eqK_sound2 d fs (i + ks1.length) ks' cs ds b2 xs ys hks h2 hx hy
                have hfo : P.fieldsOf f.type = gs := by simp [Program.fieldsOf, hu]
                have hu2 : P.underlying f.type = some (.struct (P.fieldsOf f.type)) := by rw [hfo]; exact hu
                have hag : (isAgg f.type).run P w = .ok true w := by unfold isAgg; rw [Sem.run_bind, run_underlying hu w]; simp
                have hxl : i + tsz P f.type ≤ xs.length := by rw [← hx.1, ← hn.1]; rw [List.length_drop] at h3; have := hn.2; omega
                have hyl : i + tsz P f.type ≤ ys.length := by rw [← hy.1, ← hn.1]; rw [List.length_drop] at h4; have := hn.2; omega
                have hsub := eqK_sound (P := P) (w := w) (ρ := ρ) (Im := Im) d gs.toList 0 ks1 ((cs.drop i).take ks1.length) ((ds.drop i).take ks1.length) b1 ((xs.drop i).take ks1.length) ((ys.drop i).take ks1.length) hk1 (by simpa using h1) (hx.cut i _) (hy.cut i _)
                have heq : (Op.equalIn (d + 2) f.type (.agg ((xs.drop i).take (tsz P f.type)).toArray) (.agg ((ys.drop i).take (tsz P f.type)).toArray)).run P w = .ok b1 w := by
                  rw [show d + 2 = (d + 1) + 1 from rfl, run_equalIn_agg w (d + 1) f.type _ _ hu2 (by simpa using hst), hfo, ← hn.1]
                  exact hsub
                simp only [Op.eqFields, ne_eq, hname, not_false_eq_true, if_true, Sem.run_bind, hoff, part_agg hag hn.2 hxl, part_agg hag hn.2 hyl, Result.andThen_ok, heq]
                cases b1
                · simp
                · simpa using ih
              · cases hk
        · cases hk
    · cases hk
theorem teq_of {t : TypeId} {ks : List Nat} (h : teq P t = some ks) : P.underlying t = some (.struct (P.fieldsOf t)) ∧ P.stoodInHeld t = false ∧ P.eqGuardType P.depth t = false ∧ fieldKinds2 P 0 (P.fieldsOf t).toList = some ks := by
  unfold teq at h
  split at h
  · rename_i fs hu
    split at h
    · cases h
    · rename_i hc
      simp only [Bool.or_eq_true, not_or, Bool.not_eq_true] at hc
      have hf : P.fieldsOf t = fs := by simp [Program.fieldsOf, hu]
      rw [hf]; exact ⟨hu, hc.1, hc.2, h⟩
  · cases h
theorem structEq_run {t : TypeId} {ks : List Nat} {cs ds : List AV} {b : Bool} {xs ys : List Value} (h : teq P t = some ks) (he : eqK ks cs ds = some b) (hx : Reps w ρ Im cs xs) (hy : Reps w ρ Im ds ys) (op : BinOp) (ox oy : Operand) :
    (eqGuard op t ox oy (.agg xs.toArray) (.agg ys.toArray)).run P w = .ok () w ∧ (binOp .eql t (.agg xs.toArray) (.agg ys.toArray)).run P w = .ok (.bool b) w ∧ (binOp .neq t (.agg xs.toArray) (.agg ys.toArray)).run P w = .ok (.bool (!b)) w := by
  obtain ⟨hu, hs, hg, hk⟩ := teq_of h
  have hr : (Op.equalIn 10000 t (.agg xs.toArray) (.agg ys.toArray)).run P w = .ok b w := by
    rw [show (10000 : Nat) = 9999 + 1 from rfl, run_equalIn_agg w 9999 t _ _ hu hs]
    exact eqK_sound2 9997 _ 0 ks cs ds b xs ys hk (by simpa using he) hx hy
  exact ⟨run_eqGuard_agg w op t ox oy _ _ hg, by rw [run_eql_struct, hr]; rfl, by rw [run_neq_struct, hr]; rfl⟩
end
end Go.Vai
namespace Go.Vai
open Go.RowKit
variable {P : Program} {w : World} {ρ : Nat → Option Nat} {Im : Nat → Prop} {E : Env} {σ : Store} {a : Act}
theorem slice_run {t e : TypeId} {x : Operand} {lo hi : Option Operand} {r : AV} {n : Nat} (hu : tel P t = some e)
    (hn : lenV (ev E x) = some n) (hb : bound E hi n fun h => bound E lo 0 fun l => slCut P e (ev E x) l h r) (hx : Rep w ρ Im (ev E x) (a.eval x))
    (hhi : ∀ o, hi = some o → Rep w ρ Im (ev E o) (a.eval o)) (hlo : ∀ o, lo = some o → Rep w ρ Im (ev E o) (a.eval o)) :
    ∃ y, (Instr.sliceAt t (a.eval x) (lo.map a.eval) (hi.map a.eval) none).run P w = .ok y w ∧ Rep w ρ Im r y := by
  have hu := tel_of hu
  obtain ⟨h, hb, hh⟩ := bound_sound hb hhi
  obtain ⟨l, hcut, hl⟩ := bound_sound hb hlo
  obtain ⟨ad, n', cap, hy, hn', h1, h2, h3, hz, hrep⟩ := slCut_sound hcut hx
  rw [hn] at hn'; cases hn'
  refine ⟨_, ?_, hrep⟩
  rw [hy]
  have key : (Instr.sliceBounds true n cap (lo.map a.eval) (hi.map a.eval) none).run P w = .ok (l, h, cap) w := by
    unfold Instr.sliceBounds
    rcases hh with ⟨rfl, rfl⟩ | ⟨o, k, rfl, ho⟩ <;> rcases hl with ⟨rfl, rfl⟩ | ⟨o', k', rfl, ho'⟩
    · simp
    · simp [ho', run_sliceBound h1]
    · simp [ho, run_sliceBound (Nat.le_trans h2 h3)]
    · simp [ho, ho', run_sliceBound (Nat.le_trans h2 h3), run_sliceBound h1]
  simp only [Instr.sliceAt, Instr.slice, Sem.run_bind, run_underlying hu w, Result.andThen_ok, key, run_sizeOf' hz w, Sem.run_pure]
theorem sliceS_run {t : TypeId} {x : Operand} {lo hi : Option Operand} {r : AV} {n : Nat} (hu : tstr P t = true)
    (hn : lenV (ev E x) = some n) (hb : bound E hi n fun h => bound E lo 0 fun l => strCut (ev E x) l h r) (hx : Rep w ρ Im (ev E x) (a.eval x))
    (hhi : ∀ o, hi = some o → Rep w ρ Im (ev E o) (a.eval o)) (hlo : ∀ o, lo = some o → Rep w ρ Im (ev E o) (a.eval o)) :
    ∃ y, (Instr.sliceAt t (a.eval x) (lo.map a.eval) (hi.map a.eval) none).run P w = .ok y w ∧ Rep w ρ Im r y := by
  have hu := tstr_of hu
  obtain ⟨h, hb, hh⟩ := bound_sound hb hhi
  obtain ⟨l, hcut, hl⟩ := bound_sound hb hlo
  unfold strCut at hcut
  split at hcut
  · rename_i s he
    obtain ⟨h1, h2, rfl⟩ := hcut
    rw [he] at hx hn
    have hy := hx.v_inv
    simp [lenV] at hn; subst hn
    refine ⟨_, ?_, .im _ _ (.v _)⟩
    rw [hy]
    have key : (Instr.sliceBounds false s.size s.size (lo.map a.eval) (hi.map a.eval) none).run P w = .ok (l, h, s.size) w := by
      unfold Instr.sliceBounds
      rcases hh with ⟨rfl, rfl⟩ | ⟨o, k, rfl, ho⟩ <;> rcases hl with ⟨rfl, rfl⟩ | ⟨o', k', rfl, ho'⟩
      · simp
      · simp [ho', run_sliceBound h1]
      · simp [ho, run_sliceBound h2]
      · simp [ho, ho', run_sliceBound h2, run_sliceBound h1]
    simp [Instr.sliceAt, Instr.slice, Sem.run_bind, run_underlying hu, key]
  · exact hcut.elim
theorem pureV_sound (hinv : Inv w ρ Im σ) (henv : EnvRep w ρ Im E a.tmps) {o : Oper} (hlow : Op.low a.tmps.size o.op = true) {r : AV} (h : pureV P o.op E σ r) :
    ∃ y, (execOp a.eval o).run P w = .ok (.value y) w ∧ Rep w ρ Im r y := by
  have rep : ∀ x, x ∈ o.op.operands → Rep w ρ Im (ev E x) (a.eval x) := fun x hx => ev_rep henv (low_of hlow hx)
  obtain ⟨dst, op, ty, pos, after, guard⟩ := o
  simp only at hlow h rep
  unfold pureV at h
  split at h
  · subst h; exact ⟨_, rfl, rep _ (by simp [Op.operands])⟩
  · subst h; exact ⟨_, rfl, rep _ (by simp [Op.operands])⟩
  · -- pick
    rename_i c x y
    split at h
    · rename_i b hb
      have hc := rep c (by simp [Op.operands])
      rw [hb] at hc
      have hc := hc.v_inv
      subst h
      cases b
      · exact ⟨a.eval y, by simp [execOp, hc, asBool], by simpa using rep y (by simp [Op.operands])⟩
      · exact ⟨a.eval x, by simp [execOp, hc, asBool], by simpa using rep x (by simp [Op.operands])⟩
    · exact h.elim
  · -- load
    rename_i t x
    obtain ⟨cs, j, b, o, ys, hp, hy, hr, h1, hc⟩ := cellsAt_sound hinv h (rep x (by simp [Op.operands]))
    obtain ⟨y, hrun, hrep⟩ := load_sound hp hr h1 hc
    exact ⟨y, by simp [execOp, hy, Instr.loadAt, Instr.sureAddr, hrun], hrep⟩
  · -- nilCheck
    rename_i x
    have hx := rep x (by simp [Op.operands])
    split at h
    · rename_i e j he; rw [he] at hx; subst h
      obtain ⟨b, o, hy, _⟩ := hx.pt_inv
      exact ⟨a.eval x, by simp [execOp, hy], hx⟩
    · rename_i id sz i j he; rw [he] at hx; subst h
      obtain ⟨b, hy, _⟩ := hx.ptr_inv
      exact ⟨a.eval x, by simp [execOp, hy], hx⟩
    · rename_i g cs he; rw [he] at hx; subst h
      obtain ⟨ys, hy, _⟩ := hx.clo_inv
      obtain ⟨a1, b1, e1⟩ := mkF_func g ys
      exact ⟨a.eval x, by simp [execOp, hy, e1], hx⟩
    · exact h.elim
  · -- binOp
    rename_i op t x y t'
    have hx := rep x (by simp [Op.operands])
    have hy := rep y (by simp [Op.operands])
    split at h
    · rename_i k m k' n h1 h2
      rw [h1] at hx; rw [h2] at hy
      have hx := hx.v_inv; have hy := hy.v_inv
      obtain ⟨z, hz, rfl⟩ := binI_sound (P := P) (t := t) h w
      exact ⟨z, by simp [execOp, hx, hy, eqGuard_int, hz], .im _ _ (.v _)⟩
    · rename_i m n h1 h2
      rw [h1] at hx; rw [h2] at hy
      have hx := hx.v_inv; have hy := hy.v_inv
      obtain ⟨z, hz, rfl⟩ := binS_sound (P := P) (t := t) h w
      exact ⟨z, by simp [execOp, hx, hy, eqGuard_string, hz], .im _ _ (.v _)⟩
    · rename_i m n h1 h2
      rw [h1] at hx; rw [h2] at hy
      have hx := hx.v_inv; have hy := hy.v_inv
      have hg : ∀ w, (eqGuard op t x y (.bool m) (.bool n)).run P w = .ok () w := fun w => by unfold eqGuard; cases op <;> rfl
      obtain ⟨hk, h⟩ := h
      have hu : P.underlying t = some .bool := by
        rcases tkind_run hk with ⟨h0, _⟩ | ⟨_, h0⟩ | ⟨h0, _⟩
        · cases h0
        · exact h0
        · cases h0
      have he : ∀ w, (Op.equalIn 10000 t (.bool m) (.bool n)).run P w = .ok (m == n) w := fun w => run_equalIn_bool' w 9999 t m n hu
      rcases h with ⟨rfl, rfl⟩ | ⟨rfl, rfl⟩
      · exact ⟨.bool (m == n), by simp [execOp, hx, hy, hg, binOp, Op.equal, Op.maxDepth, he], .im _ _ (.v _)⟩
      · exact ⟨.bool (!(m == n)), by simp [execOp, hx, hy, hg, binOp, Op.equal, Op.maxDepth, he], .im _ _ (.v _)⟩
    · rename_i cs ds h1 h2
      rw [h1] at hx; rw [h2] at hy
      obtain ⟨xs, hxe, hxl, _, hxr⟩ := hx.agg_inv
      obtain ⟨ys, hye, hyl, _, hyr⟩ := hy.agg_inv
      obtain ⟨ks, hks, b, hb, h⟩ := h
      obtain ⟨g1, g2, g3⟩ := structEq_run (P := P) hks hb ⟨hxl, hxr⟩ ⟨hyl, hyr⟩ op x y
      rcases h with ⟨rfl, rfl⟩ | ⟨rfl, rfl⟩
      · exact ⟨.bool b, by simp only [execOp, hxe, hye, Sem.run_bind, g1, g2, Result.andThen_ok, Sem.run_pure], .im _ _ (.v _)⟩
      · exact ⟨.bool (!b), by simp only [execOp, hxe, hye, Sem.run_bind, g1, g3, Result.andThen_ok, Sem.run_pure], .im _ _ (.v _)⟩
    · rename_i u h1 h2
      rw [h2] at hy
      have hy := hy.v_inv
      obtain ⟨hf, ht, h⟩ := h
      obtain ⟨ad, n, c, hxe⟩ := hx.full hf
      have hu : ∃ e, P.underlying t = some (.slice e) := by
        unfold tel at ht
        split at ht
        · rename_i e he; exact ⟨e, he⟩
        · cases ht
      obtain ⟨e, hu⟩ := hu
      have hg : ∀ w, (eqGuard op t x y (.slice (some ad) n c) (.slice none 0 0)).run P w = .ok () w := fun w => by unfold eqGuard; cases op <;> rfl
      have he : ∀ w, (Op.equalIn 10000 t (.slice (some ad) n c) (.slice none 0 0)).run P w = .ok false w := fun w => by
        have hrun : ∀ (f : TypeDesc → Sem Bool), (underlying t >>= f).run P w = (f (.slice e)).run P w := fun f => by
          simp [Sem.run_bind, underlying, hu]
        unfold Op.equalIn
        rw [hrun]; rfl
      rcases h with ⟨rfl, rfl⟩ | ⟨rfl, rfl⟩
      · exact ⟨.bool false, by simp [execOp, hxe, hy, hg, binOp, Op.equal, Op.maxDepth, he], .im _ _ (.v _)⟩
      · exact ⟨.bool true, by simp [execOp, hxe, hy, hg, binOp, Op.equal, Op.maxDepth, he], .im _ _ (.v _)⟩
    · exact h.elim
  · -- build
    rename_i t parts
    obtain ⟨z, hz, hok, h⟩ := h
    obtain ⟨zs, hzc, hzl, hz1, hzr⟩ := Value.cells_ofC hok
    have hp := pairs_of henv parts.toList fun p hp => low_of hlow (by simp [Op.operands]; exact ⟨p.1, Array.mem_toList_iff.1 hp⟩)
    have hpe : (parts.map fun (i, x) => (i, a.eval x)).toList = parts.toList.map fun p => (p.1, a.eval p.2) := by simp
    rcases h with ⟨fs, hfs, hall, cs, hf, rfl⟩ | ⟨m, e, he, hze, cs, hf, rfl⟩
    · obtain ⟨fa, hu, rfl⟩ := tfld_of hfs
      obtain ⟨ys, hfill, hrep, h1⟩ := fill_sound _ _ _ _ _ hp hf (hzr w ρ Im) hz1
      refine ⟨.agg ys.toArray, ?_, .agg_mk hrep.1 h1 hrep.2⟩
      have hplaces : ∀ l : List Field, (∀ f ∈ l, 0 < tsz P f.type) → (l.mapM fun f => (do pure (f.offset, ← sizeOf f.type) : Sem (Nat × Nat))).run P w = .ok (l.map fun f => (f.offset, tsz P f.type)) w := by
        intro l
        induction l with
        | nil => intro _; simp
        | cons f l ih =>
          intro hl
          simp only [List.mapM_cons, Sem.run_bind, run_sizeOf' (hl f (by simp)) w, Result.andThen_ok, Sem.run_pure, ih (fun g hg => hl g (by simp [hg])), List.map_cons]
      have hpa : (fa.mapM fun f => (do pure (f.offset, ← sizeOf f.type) : Sem (Nat × Nat))).run P w = .ok (fa.toList.map fun f => (f.offset, tsz P f.type)).toArray w := by
        rw [Array.mapM_eq_mapM_toList]
        simp only [map_eq_pure_bind, Sem.run_bind]
        rw [hplaces fa.toList (fun f hf => by
          have := List.all_eq_true.1 hall (f.offset, f.type) (List.mem_map.2 ⟨f, hf, rfl⟩)
          simpa using this)]
        rfl
      have hplace : (fun (i : Nat) => ((fa.toList.map fun f => (f.offset, tsz P f.type)).toArray)[i]?) = (fun i => ((fa.toList.map fun f => (f.offset, f.type))[i]?).map fun (f : Nat × TypeId) => (f.1, tsz P f.2)) := by
        funext i; rw [List.getElem?_toArray, List.getElem?_map, List.getElem?_map]; cases fa.toList[i]? <;> rfl
      simp only [execOp, Instr.build, Sem.run_bind, run_zero hz w, Result.andThen_ok, run_underlying hu w, hpa, hplace, hpe, hzc, hfill, Sem.run_pure]
    · obtain ⟨ys, hfill, hrep, h1⟩ := fill_sound _ _ _ _ _ hp hf (hzr w ρ Im) hz1
      refine ⟨.agg ys.toArray, ?_, .agg_mk hrep.1 h1 hrep.2⟩
      simp only [execOp, Instr.build, Sem.run_bind, run_zero hz w, Result.andThen_ok, run_underlying (tarr_of he) w, run_sizeOf' hze w, hpe, hzc, hfill, Sem.run_pure]
  · -- unOp
    rename_i op t x
    have hx := rep x (by simp [Op.operands])
    split at h
    · rename_i b hb; rw [hb] at hx; have hx := hx.v_inv; subst h
      exact ⟨_, by simp [execOp, hx, Op.unary], .im _ _ (.v _)⟩
    · rename_i k n hb; rw [hb] at hx; have hx := hx.v_inv; subst h
      exact ⟨_, by simp only [execOp, hx, Op.unary, Op.intArith, Sem.run_bind, Sem.run_pure, Result.andThen_ok], .im _ _ (.v _)⟩
    · rename_i k n hb; rw [hb] at hx; have hx := hx.v_inv; subst h
      exact ⟨_, by simp only [execOp, hx, unary_xor, Sem.run_bind, bitsI_run .xor (by simp), Sem.run_pure, Result.andThen_ok], .im _ _ (.v _)⟩
    · exact h.elim
  · -- convert
    rename_i src dst x
    have hx := rep x (by simp [Op.operands])
    split at h
    · rename_i k k' n hk hb
      rw [hb] at hx; have hx := hx.v_inv
      obtain ⟨⟨d, hd⟩, rfl⟩ := h
      refine ⟨.int k (k.wrap n), ?_, .im _ _ (.v _)⟩
      have hdst := tint_of hk
      simp only [execOp, hx, convert, Sem.run_bind, run_underlying hd w, run_underlying hdst w, Result.andThen_ok]
      cases d <;> rfl
    · exact h.elim
  · -- makeFunc
    rename_i f first cs
    rcases h with ⟨rfl, hh, rfl⟩ | ⟨rfl, rfl⟩
    · have hall : ∀ (j : Nat) (c : AV) (y : Value), (cs.toList.map (ev E))[j]? = some c → (cs.toList.map a.eval)[j]? = some y → Rep w ρ Im c y := fun j c y hc hy => by
        rw [List.getElem?_map] at hc hy
        cases hx : cs.toList[j]? with
        | none => simp [hx] at hc
        | some x =>
          simp only [hx, Option.map_some, Option.some.injEq] at hc hy
          subst hc; subst hy
          exact rep x (by simp only [Op.operands, Array.empty_append]; exact Array.mem_toList_iff.1 (List.mem_of_getElem? hx))
      have := Rep.clo (w := w) (ρ := ρ) (Im := Im) f (cs.toList.map (ev E)) (cs.toList.map a.eval) (by simp) hall
      rw [headOK_mkF hh (by simp) hall] at this
      refine ⟨_, ?_, this⟩
      cases cs; simp [execOp, Instr.makeFunc]
    · have hall : ∀ (j : Nat) (c : AV) (y : Value), (AV.v (.tuple #[]) :: first.toList.map (ev E))[j]? = some c → (Value.tuple #[] :: first.toList.map a.eval)[j]? = some y → Rep w ρ Im c y := fun j c y hc hy => by
        cases j with
        | zero =>
          simp only [List.getElem?_cons_zero, Option.some.injEq] at hc hy
          subst hc; subst hy; exact .im _ _ (.v _)
        | succ j =>
          rw [List.getElem?_cons_succ, List.getElem?_map] at hc hy
          cases hx : first.toList[j]? with
          | none => simp [hx] at hc
          | some x =>
            simp only [hx, Option.map_some, Option.some.injEq] at hc hy
            subst hc; subst hy
            exact rep x (by simp only [Op.operands, Array.append_empty]; exact Array.mem_toList_iff.1 (List.mem_of_getElem? hx))
      have := Rep.clo (w := w) (ρ := ρ) (Im := Im) f (.v (.tuple #[]) :: first.toList.map (ev E)) (.tuple #[] :: first.toList.map a.eval) (by simp) hall
      refine ⟨_, ?_, this⟩
      cases first; simp [execOp, Instr.makeFunc, mkF]
  · -- fieldAddr
    rename_i s x f
    obtain ⟨fs, hfs, off, t, hf, hz, h⟩ := h
    obtain ⟨fa, hu, rfl⟩ := tfld_of hfs
    have hx := rep x (by simp [Op.operands])
    rw [List.getElem?_map] at hf
    cases hff : fa.toList[f]? with
    | none => simp [hff] at hf
    | some fl =>
      simp only [hff, Option.map_some, Option.some.injEq, Prod.mk.injEq] at hf
      obtain ⟨rfl, rfl⟩ := hf
      have hff' : fa[f]? = some fl := by simpa using hff
      split at h
      · rename_i e j he; rw [he] at hx; subst h
        obtain ⟨b, o, hy, hall⟩ := hx.pt_inv
        refine ⟨_, ?_, hall (j + fl.offset)⟩
        simp only [execOp, hy, Instr.fieldAt, Sem.run_bind, run_underlying hu w, Result.andThen_ok, hff', Instr.sureAddr, Sem.run_pure, run_fieldPlace hz rfl w, Nat.add_assoc]
      · rename_i id sz i j he; rw [he] at hx; subst h
        obtain ⟨b, hy, hall⟩ := hx.ptr_inv
        refine ⟨_, ?_, hall i (j + fl.offset)⟩
        simp only [execOp, hy, Instr.fieldAt, Sem.run_bind, run_underlying hu w, Result.andThen_ok, hff', Instr.sureAddr, Sem.run_pure, run_fieldPlace hz rfl w, Nat.add_assoc]
      · exact h.elim
  · -- field
    rename_i s x f
    obtain ⟨fs, hfs, off, t, hf, h⟩ := h
    obtain ⟨fa, hu, rfl⟩ := tfld_of hfs
    have hx := rep x (by simp [Op.operands])
    rw [List.getElem?_map] at hf
    cases hff : fa.toList[f]? with
    | none => simp [hff] at hf
    | some fl =>
      simp only [hff, Option.map_some, Option.some.injEq, Prod.mk.injEq] at hf
      obtain ⟨rfl, rfl⟩ := hf
      have hff' : fa[f]? = some fl := by simpa using hff
      split at h
      · rename_i cs he; rw [he] at hx
        obtain ⟨ys, hy, hl, h1, hr⟩ := hx.agg_inv
        obtain ⟨z, hz, hrep⟩ := partOf_sound h ⟨hl, hr⟩ h1
        exact ⟨z, by simp only [execOp, hy, Instr.field, Sem.run_bind, run_underlying hu w, Result.andThen_ok, hff', asAgg, Sem.run_pure, hz], hrep⟩
      · exact h.elim
  · -- indexAddr
    rename_i t x i
    have hx := rep x (by simp [Op.operands])
    have hi := rep i (by simp [Op.operands])
    split at h
    · rename_i k n hn
      rw [hn] at hi
      have hi := hi.v_inv
      rcases h with ⟨e, he, h⟩ | ⟨m, e, he, hz, h0, hlt, h⟩
      · obtain ⟨z, hz, hrep⟩ := slIdx_sound (k := k) he h hx
        exact ⟨z, by simp [execOp, hi, hz], hrep⟩
      · have hu := tarr_of he
        split at h
        · rename_i c j hc; rw [hc] at hx; subst h
          obtain ⟨b, o, hy, hall⟩ := hx.pt_inv
          refine ⟨_, ?_, hall (j + n.toNat * tsz P e)⟩
          simp only [execOp, hi, hy, Instr.indexAt, Sem.run_bind, asInt_run, Result.andThen_ok, run_underlying hu w, Instr.sureAddr, Sem.run_pure]
          rw [if_pos ⟨h0, hlt⟩]
          simp only [Sem.run_bind, run_sizeOf' hz w, Result.andThen_ok, Sem.run_pure, add_none, Nat.add_assoc]
        · rename_i id sz o j hc; rw [hc] at hx; subst h
          obtain ⟨b, hy, hall⟩ := hx.ptr_inv
          refine ⟨_, ?_, hall o (j + n.toNat * tsz P e)⟩
          simp only [execOp, hi, hy, Instr.indexAt, Sem.run_bind, asInt_run, Result.andThen_ok, run_underlying hu w, Instr.sureAddr, Sem.run_pure]
          rw [if_pos ⟨h0, hlt⟩]
          simp only [Sem.run_bind, run_sizeOf' hz w, Result.andThen_ok, Sem.run_pure, add_none, Nat.add_assoc]
        · exact h.elim
    · exact h.elim
  · -- index
    rename_i t x i
    have hx := rep x (by simp [Op.operands])
    have hi := rep i (by simp [Op.operands])
    split at h
    · rename_i k n s hn hs
      rw [hn] at hi; rw [hs] at hx
      have hi := hi.v_inv; have hx := hx.v_inv
      obtain ⟨ht, h0, c, hc, rfl⟩ := h
      refine ⟨_, ?_, .im _ _ (.v _)⟩
      simp only [execOp, hi, hx, Instr.index, Sem.run_bind, asInt_run, Result.andThen_ok, run_underlying (tstr_of ht) w, h0, if_true, hc, Sem.run_pure]
    · rename_i k n cs hn hs
      rw [hn] at hi; rw [hs] at hx
      have hi := hi.v_inv
      obtain ⟨m, e, he, hz, h0, hlt, h⟩ := h
      obtain ⟨ys, hy, hl, h1, hr⟩ := hx.agg_inv
      obtain ⟨z, hzz, hrep⟩ := partOf_sound h ⟨hl, hr⟩ h1
      refine ⟨z, ?_, hrep⟩
      simp only [execOp, hi, hy, Instr.index, Sem.run_bind, asInt_run, Result.andThen_ok, run_underlying (tarr_of he) w]
      rw [if_pos ⟨h0, hlt⟩]
      simp only [Sem.run_bind, run_sizeOf' hz w, Result.andThen_ok, hzz, Sem.run_pure]
    · exact h.elim
  · -- extract
    rename_i x i
    have hx := rep x (by simp [Op.operands])
    split at h
    · rename_i vs hv; rw [hv] at hx
      obtain ⟨ys, hy, hl, hr⟩ := hx.tup_inv
      have hlt : i < ys.length := by rw [← hl]; exact (List.getElem?_eq_some_iff.1 h).1
      refine ⟨ys[i], ?_, hr i r _ h (List.getElem?_eq_getElem hlt)⟩
      simp [execOp, hy, Instr.extract, hlt]
    · exact h.elim
  · -- slice
    rename_i t x lo hi
    have hx := rep x (by simp [Op.operands])
    have hhi : ∀ o, hi = some o → Rep w ρ Im (ev E o) (a.eval o) := fun o ho => rep o (by subst ho; simp [Op.operands])
    have hlo : ∀ o, lo = some o → Rep w ρ Im (ev E o) (a.eval o) := fun o ho => rep o (by subst ho; simp [Op.operands])
    rcases h with ⟨e, he, n, hn, hb⟩ | ⟨ht, n, hn, hb⟩
    · obtain ⟨y, hy, hr⟩ := slice_run he hn hb hx hhi hlo
      exact ⟨y, by simp [execOp, hy], hr⟩
    · obtain ⟨y, hy, hr⟩ := sliceS_run ht hn hb hx hhi hlo
      exact ⟨y, by simp [execOp, hy], hr⟩
  · -- len
    rename_i args argTypes
    split at h
    · rename_i x t hx ht
      have hx' : args = #[x] := by rw [← Array.toArray_toList (xs := args), hx]
      have ht' : argTypes = #[t] := by rw [← Array.toArray_toList (xs := argTypes), ht]
      subst hx'; subst ht'
      have hx := rep x (by simp [Op.operands, Call.operands])
      rcases h with ⟨ht, h⟩ | ⟨ht, h⟩ | ⟨m, e, ht, rfl⟩
      · split at h
        · rename_i s hs; rw [hs] at hx; have hx := hx.v_inv; subst h
          exact ⟨_, by simp [execOp, resolve, invoke, builtin, hx, Builtin.len_, run_underlying (tstr_of ht), goInt], .im _ _ (.v _)⟩
        · exact h.elim
      · obtain ⟨e, he⟩ := Option.isSome_iff_exists.1 ht
        have key : ∀ n ad cap, a.eval x = .slice ad n cap → r = .v (.int .i64 (n : Int)) → ∃ y, (execOp a.eval { dst, op := .call { callee := .builtin .len, args := #[x], argTypes := #[t] }, type := ty, pos, after, guard }).run P w = .ok (.value y) w ∧ Rep w ρ Im r y := by
          rintro n ad cap hy rfl
          exact ⟨_, by simp [execOp, resolve, invoke, builtin, hy, Builtin.len_, run_underlying (tel_of he), goInt], .im _ _ (.v _)⟩
        have hl : ∀ n, lenV (ev E x) = some n → (∀ s, ev E x ≠ .v (.string s)) → ∃ ad cap, a.eval x = .slice ad n cap := fun n hn hs => by
          rcases lenV_sound hn hx with h' | ⟨s, _, _, h'⟩
          · exact h'
          · exact absurd h' (hs s)
        split at h
        · rename_i hh; obtain ⟨ad, cap, hy⟩ := hl _ (by rw [hh]; rfl) (by rw [hh]; simp); exact key _ ad cap hy h
        · rename_i hh; obtain ⟨ad, cap, hy⟩ := hl _ (by rw [hh]; rfl) (by rw [hh]; simp); exact key _ ad cap hy h
        · rename_i hh; obtain ⟨ad, cap, hy⟩ := hl _ (by rw [hh]; rfl) (by rw [hh]; simp); exact key _ ad cap hy h
        · exact h.elim
      · exact ⟨_, by simp [execOp, resolve, invoke, builtin, Builtin.len_, run_underlying (tarr_of ht), goInt], .im _ _ (.v _)⟩
    · exact h.elim
  · -- max
    rename_i args argTypes
    split at h
    · rename_i k m k' n hx
      obtain ⟨l⟩ := args
      obtain ⟨x, y, rfl⟩ : ∃ x y, l = [x, y] := by
        rcases l with _ | ⟨x, _ | ⟨y, _ | ⟨z, l⟩⟩⟩ <;> first | exact ⟨_, _, rfl⟩ | simp at hx
      · simp only [List.map_cons, List.map_nil, List.cons.injEq, and_true] at hx
        obtain ⟨h1, h2⟩ := hx
        have hx := rep x (by simp [Op.operands, Call.operands])
        have hy := rep y (by simp [Op.operands, Call.operands])
        rw [h1] at hx; rw [h2] at hy
        have hx := hx.v_inv; have hy := hy.v_inv
        subst h
        exact ⟨_, by simp [execOp, resolve, invoke, builtin, hx, hy, Builtin.max_, Builtin.max2], .im _ _ (.v _)⟩
    · exact h.elim
  · -- min
    rename_i args argTypes
    split at h
    · rename_i k m k' n hx
      obtain ⟨l⟩ := args
      obtain ⟨x, y, rfl⟩ : ∃ x y, l = [x, y] := by
        rcases l with _ | ⟨x, _ | ⟨y, _ | ⟨z, l⟩⟩⟩ <;> first | exact ⟨_, _, rfl⟩ | simp at hx
      · simp only [List.map_cons, List.map_nil, List.cons.injEq, and_true] at hx
        obtain ⟨h1, h2⟩ := hx
        have hx := rep x (by simp [Op.operands, Call.operands])
        have hy := rep y (by simp [Op.operands, Call.operands])
        rw [h1] at hx; rw [h2] at hy
        have hx := hx.v_inv; have hy := hy.v_inv
        subst h
        exact ⟨_, by simp [execOp, resolve, invoke, builtin, hx, hy, Builtin.min_, Builtin.min2], .im _ _ (.v _)⟩
    · exact h.elim
  · -- unsafeSliceData
    rename_i args argTypes
    split at h
    · rename_i id sz n hx
      obtain ⟨l⟩ := args
      obtain ⟨x, rfl⟩ : ∃ x, l = [x] := by
        rcases l with _ | ⟨x, _ | ⟨y, l⟩⟩ <;> first | exact ⟨_, rfl⟩ | simp at hx
      simp only [List.map_cons, List.map_nil, List.cons.injEq, and_true] at hx
      have hr := rep x (by simp [Op.operands, Call.operands])
      rw [hx] at hr
      obtain ⟨rfl, rfl⟩ := h
      generalize hax : a.eval x = ax at hr
      cases hr with
      | im _ _ h => cases h
      | own _ _ _ b cap cur e hρ hn hcap hb hs hz =>
        have hc : cap ≠ 0 := by omega
        refine ⟨.pointer (some ⟨b, 0, none⟩), ?_, .ptr id 1 0 0 b hρ hz⟩
        have hrun : (Builtin.unsafeSliceData_ argTypes ty #[.slice (some ⟨b, 0, none⟩) (n + 1) cap]).run P w = .ok (.pointer (some ⟨b, 0, none⟩)) w := by
          show Sem.run P (if cap ≠ 0 then pure (.pointer (some ⟨b, 0, none⟩)) else _ : Sem Value) w = _
          rw [if_pos hc]; rfl
        simp [execOp, resolve, invoke, builtin, hax, hrun]
      | ownAt _ _ _ _ _ _ _ h0 => omega
    · exact h.elim
  · exact h.elim
end Go.Vai
namespace Go.Vai
open Go.RowKit
variable {P : Program} {C : Fx} {w : World} {ρ : Nat → Option Nat} {Im : Nat → Prop} {M : Str} {E : Env} {σ : Store} {a : Act}
def Clean (d : Nat) (E : Env) (σ : Store) : Prop := σ d = none ∧ (∀ t, ¬ Names (E t) d) ∧ ∀ id k, σ id = some k → ∀ e ∈ k.es, ¬ Names e d
theorem clean_kill {p : Nat → Bool} {d : Nat} (h : p d = true) (E : Env) (σ : Store) : Clean d (killE p E) (killS p σ) := by
  refine ⟨by simp [killS, h], fun t hn => ?_, fun id k hk e he hn => ?_⟩
  · have := (AV.kill_names p (E t) d hn).2; rw [h] at this; cases this
  · simp only [killS] at hk
    split at hk
    · cases hk
    · simp only [Option.map_eq_some_iff] at hk
      obtain ⟨k0, h0, rfl⟩ := hk
      unfold Blk.kill at he
      split at he
      · rw [AV.dkL_eq] at he
        obtain ⟨e0, _, rfl⟩ := List.mem_map.1 he
        have := (AV.dk_names p e0 d hn).2; rw [h] at this; cases this
      · rename_i hnn; exact hnn ((AV.namesL_iff _ _).2 ⟨e, he, AV.namesB_of p hn h⟩)
theorem Clean.put {d : Nat} {dst : Option Nat} {v : AV} (h : Clean d E σ) (hv : ¬ Names v d) : Clean d (updO E dst v) σ := by
  refine ⟨h.1, fun t => ?_, h.2.2⟩
  cases dst with
  | none => exact h.2.1 t
  | some x => simp only [updO, upd]; split; exact hv; exact h.2.1 t
theorem Clean.add {d id : Nat} {k : Blk} (h : Clean d E σ) (hne : id ≠ d) (hk : ∀ e ∈ k.es, ¬ Names e d) : Clean d E (updS σ id k) := by
  refine ⟨by rw [updS_ne _ _ _ _ hne.symm]; exact h.1, h.2.1, fun id' k' hk' => ?_⟩
  by_cases e : id' = id
  · subst e; simp at hk'; subst hk'; exact hk
  · rw [updS_ne _ _ _ _ e] at hk'; exact h.2.2 id' k' hk'
def Filled (w : World) (ρ : Nat → Option Nat) (Im : Nat → Prop) (k : Blk) (cur : Array Value) : Prop :=
  (∀ e ∈ k.es, e.cells.length = k.sz) ∧ k.es.length * k.sz ≤ cur.size ∧
    ∀ (i : Nat) (e : AV) (j : Nat) (c : AV), k.es[i]? = some e → e.cells[j]? = some c → ∃ x, cur[i * k.sz + j]? = some x ∧ x.oneCell' = true ∧ Rep w ρ Im c x
theorem EnvRep.later {w' : World} {d : Nat} {ob : Option Nat} {tm : Array Value} (h : EnvRep w ρ Im E tm) (hinv : Inv w ρ Im σ) (hb : ∀ k, k < w.heap.size → w'.heap[k]? = w.heap[k]?) (hn : ∀ t, ¬ Names (E t) d) :
    EnvRep w' (updR ρ d ob) Im E tm := fun t y hy => (h t y hy).later hinv.low (fun _ _ => hinv.lt) hb (hn t)
theorem pin_new (h : Wit C E σ a w ρ Im M) {d : Nat} (hpn : C.pin d = none) {ob : Option Nat} : ∀ id b, C.pin id = some b → updR ρ d ob id = b := fun id b hb => by
  by_cases e : id = d
  · subst e; rw [hpn] at hb; cases hb
  · rw [updR_ne _ _ _ _ e]; exact h.pin id b hb
theorem Wit.newBlock (hG : GStable C.G) (h : Wit C E σ a w ρ Im M) {d : Nat} (hpn : C.pin d = none) (hcl : Clean d E σ) {k : Blk} {cur : Array Value} (hf : Filled w ρ Im k cur)
    (hkn : ∀ e ∈ k.es, ¬ Names e d) (hz : k.sz ≠ 0) {dst : Option Nat} {v : AV} {y : Value} (hd : ∀ d, dst = some d → d < C.N)
    (hv : Rep (w.alloc (.cells cur k.e)) (updR ρ d (some w.heap.size)) Im v y) :
    Wit C (updO E dst v) (updS σ d k) (a.put dst y) (w.alloc (.cells cur k.e)) (updR ρ d (some w.heap.size)) Im M := by
  have hb : ∀ i, i < w.heap.size → (w.alloc (.cells cur k.e)).heap[i]? = w.heap[i]? := fun i hi => Below.heap_alloc w _ i hi
  refine h.step hG (Ext.alloc _ _ _) ?_ ((h.env.later h.inv hb hcl.2.1).put hv) (put_size ..) (put_defers ..) (updO_ne hd) (fun id b hid => ?_) (fun _ hi => .inl hi) (pin_new h hpn) (fun _ h => h)
  · refine h.inv.fresh (by simp) hb hcl.1 hcl.2.2 (fun _ h => h) (fun _ h => .inl h) ⟨Nat.le_refl _, by simp, fun h0 => absurd h0 hz, fun _ => ⟨cur, cells_of (World.alloc_heap_new w _), hf.1, hf.2.1, fun i e j c he hc => ?_⟩⟩
    obtain ⟨x, hx, h1, hr⟩ := hf.2.2 i e j c he hc
    exact ⟨x, hx, h1, hr.later h.inv.low (fun _ _ => h.inv.lt) hb (fun hn => hkn e (List.mem_of_getElem? he) (cells_names' (List.mem_of_getElem? hc) hn))⟩
  · by_cases e : id = d
    · subst e; simp at hid; exact .inr (by omega)
    · rw [updR_ne _ _ _ _ e] at hid; exact .inl hid
theorem Wit.newNil (hG : GStable C.G) (h : Wit C E σ a w ρ Im M) {d : Nat} (hpn : C.pin d = none) (hcl : Clean d E σ) (e sz : Nat) {dst : Option Nat} {v : AV} {y : Value} (hd : ∀ d, dst = some d → d < C.N)
    (hv : Rep w (updR ρ d none) Im v y) : Wit C (updO E dst v) (updS σ d ⟨e, sz, []⟩) (a.put dst y) w (updR ρ d none) Im M := by
  refine h.step hG (Ext.refl _ _) ?_ ((h.env.later h.inv (fun _ _ => rfl) hcl.2.1).put hv) (put_size ..) (put_defers ..) (updO_ne hd) (fun id b hid => ?_) (fun _ hi => .inl hi) (pin_new h hpn) (fun _ h => h)
  · exact h.inv.fresh (Nat.le_refl _) (fun _ _ => rfl) hcl.1 hcl.2.2 (fun _ h => h) (fun _ h => .inl h) rfl
  · by_cases e : id = d
    · subst e; simp at hid
    · rw [updR_ne _ _ _ _ e] at hid; exact .inl hid
theorem filled_one {t : TypeId} {v : AV} {y : Value} (h : v.ok = true) (hr : Rep w ρ Im v y) {sz : Nat} (hsz : v.cells.length = sz) : Filled w ρ Im ⟨t, sz, [v]⟩ y.cells := by
  obtain ⟨ys, hy, hrep, h1⟩ := cells_rep h hr
  refine ⟨by simp [hsz], ?_, fun i e j c he hc => ?_⟩
  · rw [hy]; simp [← hrep.1, hsz]
  · cases i with
    | succ i => simp at he
    | zero =>
      simp at he; subst he
      have hlt : j < ys.length := by rw [← hrep.1]; exact (List.getElem?_eq_some_iff.1 hc).1
      exact ⟨ys[j], by rw [hy]; simp [hlt], h1 _ (List.getElem_mem hlt), hrep.2 j c _ hc (List.getElem?_eq_getElem hlt)⟩
end Go.Vai
namespace Go.Vai
open Go.RowKit
variable {P : Program} {C : Fx} {w : World} {ρ : Nat → Option Nat} {Im : Nat → Prop} {M : Str} {E : Env} {σ : Store} {a : Act}
def addS (σ : Store) : List (Nat × Blk) → Store
  | [] => σ
  | (id, k) :: l => addS (updS σ id k) l
def newV (P : Program) (d : Nat) (op : Op) (ty : TypeId) (E : Env) (r : AV) (bl : List (Nat × Blk)) : Prop :=
  match op with
  | .move (.const (.slice none 0 0)) => ∃ e, tel P ty = some e ∧ r = .own (16 * d) (tsz P e) 0 0 ∧ bl = [(16 * d, ⟨e, tsz P e, []⟩)]
  | .assign (.const (.slice none 0 0)) => ∃ e, tel P ty = some e ∧ r = .own (16 * d) (tsz P e) 0 0 ∧ bl = [(16 * d, ⟨e, tsz P e, []⟩)]
  | .alloc t => match tel P t with
    | some e => tz P t = some (.slice none 0 0) ∧ tsz P t = 1 ∧ r = .ptr (16 * d) 1 0 0 ∧ bl = [(16 * d + 1, ⟨e, tsz P e, []⟩), (16 * d, ⟨t, 1, [.own (16 * d + 1) (tsz P e) 0 0]⟩)]
    | none => ∃ z, tz P t = some z ∧ (ofC z).ok = true ∧ (ofC z).cells.length = tsz P t ∧ tsz P t ≠ 0 ∧ r = .ptr (16 * d) (tsz P t) 0 0 ∧ bl = [(16 * d, ⟨t, tsz P t, [ofC z]⟩)]
  | .box t x => (ev E x).ok = true ∧ (ev E x).cells.length = tsz P t ∧ tsz P t ≠ 0 ∧ r = .ptr (16 * d) (tsz P t) 0 0 ∧ bl = [(16 * d, ⟨t, tsz P t, [ev E x]⟩)]
  | .buildSlice t len parts => ∃ e, tel P t = some e ∧ 0 < tsz P e ∧ (∃ z, tz P e = some z ∧ (ofC z).ok = true ∧ (ofC z).cells.length = tsz P e) ∧ len * tsz P e ≤ 16777216 ∧ parts.toList.map (·.1) = List.range len ∧
      (∀ p ∈ parts.toList, (ev E p.2).ok = true ∧ (ev E p.2).cells.length = tsz P e) ∧ r = .own (16 * d) (tsz P e) 0 len ∧ bl = [(16 * d, ⟨e, tsz P e, parts.toList.map fun p => ev E p.2⟩)]
  | .makeSlice t l c => match ev E l, ev E c with
    | .v (.int _ n), .v (.int _ m) => ∃ e, tel P t = some e ∧ 0 < tsz P e ∧ ∃ z, tz P e = some z ∧ (ofC z).ok = true ∧ (ofC z).cells.length = tsz P e ∧ 0 ≤ n ∧ n ≤ m ∧ m * (tby P e : Int) ≤ 281474976710656 ∧ m ≤ 4611686018427387904 ∧
        r = .own (16 * d) (tsz P e) 0 n.toNat ∧ bl = [(16 * d, ⟨e, tsz P e, List.replicate n.toNat (ofC z)⟩)]
    | _, _ => False
  | _ => False
theorem ofC_names {x : Value} {id : Nat} (h : Names (ofC x) id) : False := by
  unfold ofC at h
  split at h
  · split at h
    · cases h with | agg _ c _ hc h => obtain ⟨y, _, rfl⟩ := List.mem_map.1 hc; cases h
    · cases h
  · cases h with | tup _ c _ hc h => obtain ⟨y, _, rfl⟩ := List.mem_map.1 hc; cases h
  · cases h
theorem ev_names {x : Operand} {id : Nat} (h : Names (ev E x) id) : ∃ t, x = .tmp t ∧ Names (E t) id := by
  cases x with
  | tmp t => exact ⟨t, rfl, h⟩
  | const v => exact (ofC_names h).elim
  | global g => cases h
  | func f => cases h with | clo _ _ c _ hc h => simp at hc
theorem cells_names {v c : AV} {id : Nat} (hc : c ∈ v.cells) (h : Names c id) : Names v id := by
  cases v with
  | agg cs => exact .agg cs c id hc h
  | _ => simp only [AV.cells, List.mem_singleton] at hc; subst hc; exact h
theorem Clean.ev {d : Nat} (h : Clean d E σ) (x : Operand) : ¬ Names (ev E x) d := fun hn => by
  obtain ⟨t, _, ht⟩ := ev_names hn; exact h.2.1 t ht
theorem newNilC_sound (hG : GStable C.G) (h : Wit C E σ a w ρ Im M) {d nm : Nat} (hpn : C.pin (16 * nm) = none) (hcl : Clean (16 * nm) E σ) (hd : d < C.N) (e sz : Nat) :
    Wit C (upd E d (.own (16 * nm) sz 0 0)) (updS σ (16 * nm) ⟨e, sz, []⟩) (a.put (some d) (.slice none 0 0)) w (updR ρ (16 * nm) none) Im M :=
  h.newNil hG hpn hcl e sz (dst := some d) (fun _ e => by cases e; exact hd) (.ownNil _ _ (by simp))
theorem newVar_sound (hG : GStable C.G) (h : Wit C E σ a w ρ Im M) {d nm : Nat} (hpn : C.pin (16 * nm) = none) (hcl : Clean (16 * nm) E σ) (hd : d < C.N) {t sz : Nat} {v : AV} {y : Value} (hok : v.ok = true) (hsz : v.cells.length = sz) (hz : sz ≠ 0)
    (hr : Rep w ρ Im v y) (hn : ¬ Names v (16 * nm)) :
    Wit C (upd E d (.ptr (16 * nm) sz 0 0)) (updS σ (16 * nm) ⟨t, sz, [v]⟩) (a.put (some d) (.pointer (some ⟨w.heap.size, 0, none⟩))) (w.alloc (.cells y.cells t)) (updR ρ (16 * nm) (some w.heap.size)) Im M := by
  refine h.newBlock hG hpn hcl (k := ⟨t, sz, [v]⟩) (filled_one hok hr hsz) ?_ hz (dst := some d) (fun _ e => by cases e; exact hd) ?_
  · intro e he hnn; simp at he; subst he; exact hn hnn
  · have := Rep.ptr (w := w.alloc (.cells y.cells t)) (ρ := updR ρ (16 * nm) (some w.heap.size)) (Im := Im) (16 * nm) sz 0 0 w.heap.size (by simp) hz
    simpa using this
theorem fill_row {sz : Nat} (hsz : 0 < sz) : ∀ (l : List (Nat × AV)) (i n : Nat) (cs : List AV), l.map (·.1) = (List.range' i l.length) → (∀ p ∈ l, p.2.ok = true ∧ p.2.cells.length = sz) → cs.length = n * sz → i + l.length ≤ n →
    ∃ cs', fillA (fun i => some (i * sz, sz)) cs l = some cs' ∧ cs'.length = n * sz ∧ (∀ k, k < i * sz → cs'[k]? = cs[k]?) ∧ ∀ (m j : Nat) (v c : AV), (l.map (·.2))[m]? = some v → v.cells[j]? = some c → cs'[(i + m) * sz + j]? = some c
  | [], i, n, cs, _, _, hl, _ => ⟨cs, rfl, hl, fun _ _ => rfl, fun m j v c h => by simp at h⟩
  | (i', v) :: l, i, n, cs, hi, hv, hl, hle => by
    simp only [List.map_cons, List.length_cons, List.range'_succ, List.cons.injEq] at hi
    obtain ⟨rfl, hi⟩ := hi
    obtain ⟨hok, hvl⟩ := hv (i', v) (by simp)
    simp only at hok hvl
    simp only [List.length_cons] at hle
    have hb : i' * sz + sz ≤ cs.length := by rw [hl, ← Nat.succ_mul]; exact Nat.mul_le_mul_right _ (by omega)
    obtain ⟨cs', h1, h2, h3, h4⟩ := fill_row hsz l (i' + 1) n (cs.take (i' * sz) ++ v.cells ++ cs.drop (i' * sz + sz)) hi (fun p hp => hv p (by simp [hp])) (by simp [hvl]; omega) (by omega)
    refine ⟨cs', ?_, h2, fun k hk => ?_, fun m j v' c hm hc => ?_⟩
    · simp only [fillA]; rw [if_pos ⟨hvl, hb, hok⟩]; exact h1
    · rw [h3 k (by rw [Nat.succ_mul]; omega), List.append_assoc, List.getElem?_append_left (by simp; omega), List.getElem?_take, if_pos hk]
    · cases m with
      | zero =>
        simp at hm; subst hm
        have hj : j < sz := by rw [← hvl]; exact (List.getElem?_eq_some_iff.1 hc).1
        rw [Nat.add_zero, h3 _ (by rw [Nat.succ_mul]; omega), List.getElem?_append_left (by simp; omega), List.getElem?_append_right (by simp; omega)]
        simpa [List.length_take, Nat.min_eq_left (show i' * sz ≤ cs.length by omega)] using hc
      | succ m =>
        have := h4 m j v' c (by simpa using hm) hc
        rw [show i' + (m + 1) = i' + 1 + m from by omega]; exact this
theorem names_own {id sz i n d : Nat} (h : Names (.own id sz i n) d) : d = id := by cases h; rfl
theorem newV_sound (hG : GStable C.G) (h : Wit C E σ a w ρ Im M) {d nm : Nat} (hpn : ∀ k, k < 16 → C.pin (16 * nm + k) = none) (hcl : Clean (16 * nm) E σ) (hcl1 : Clean (16 * nm + 1) E σ) (hd : d < C.N) {o : Oper} (ho : o.dst = some d) (hlow : Op.low C.N o.op = true)
    {r : AV} {bl : List (Nat × Blk)} (hv : newV P nm o.op o.type E r bl) :
    ∃ y w' ρ', (execOp a.eval o).run P w = .ok (.value y) w' ∧ Wit C (upd E d r) (addS σ bl) (a.put o.dst y) w' ρ' Im M := by
  have rep : ∀ x, x ∈ o.op.operands → Rep w ρ Im (ev E x) (a.eval x) := fun x hx => ev_rep h.env (by rw [h.size]; exact low_of hlow hx)
  rw [ho]
  obtain ⟨dst, op, ty, pos, after, guard⟩ := o
  simp only at hlow hv rep ho
  unfold newV at hv
  split at hv
  · obtain ⟨e, _, rfl, rfl⟩ := hv
    exact ⟨_, w, _, rfl, newNilC_sound hG h (hpn 0 (by omega)) hcl hd e _⟩
  · obtain ⟨e, _, rfl, rfl⟩ := hv
    exact ⟨_, w, _, rfl, newNilC_sound hG h (hpn 0 (by omega)) hcl hd e _⟩
  · -- alloc
    rename_i t
    split at hv
    · rename_i e he
      obtain ⟨hz, hsz, rfl, rfl⟩ := hv
      have h1 := h.newNil hG (hpn 1 (by omega)) hcl1 e (tsz P e) (dst := none) (v := .any) (y := undef) (by simp) (.im _ _ (.any _))
      have hne : 16 * nm + 1 ≠ 16 * nm := by omega
      have h2 := newVar_sound hG h1 (hpn 0 (by omega)) (d := d) (t := t) (sz := 1) (v := .own (16 * nm + 1) (tsz P e) 0 0) (y := .slice none 0 0) (hcl.add hne (by simp)) hd rfl rfl (by omega) (.ownNil _ _ (by simp)) (fun hn => by have := names_own hn; omega)
      exact ⟨_, _, _, by simp [execOp, Instr.alloc, run_zero hz, newVar, newRow], h2⟩
    · obtain ⟨z, hz, hok, hl, hnz, rfl, rfl⟩ := hv
      have h2 := newVar_sound hG h (hpn 0 (by omega)) hcl hd (t := t) hok hl hnz (ofC_rep z) (fun hn => ofC_names hn)
      exact ⟨_, _, _, by simp [execOp, Instr.alloc, run_zero hz, newVar, newRow], h2⟩
  · -- box
    rename_i t x
    obtain ⟨hok, hl, hnz, rfl, rfl⟩ := hv
    have h2 := newVar_sound hG h (hpn 0 (by omega)) hcl hd (t := t) hok hl hnz (rep x (by simp [Op.operands])) (hcl.ev x)
    exact ⟨_, _, _, by simp [execOp, Instr.box, newVar, newRow], h2⟩
  · -- buildSlice
    rename_i t len parts
    obtain ⟨e, he, hz, ⟨z, hzv, hzok, hzl⟩, hbig, hidx, hparts, rfl, rfl⟩ := hv
    have hlen : parts.toList.length = len := by have := congrArg List.length hidx; simpa using this
    have hp := pairs_of h.env parts.toList fun p hp => by rw [h.size]; exact low_of hlow (by simp [Op.operands]; exact ⟨p.1, Array.mem_toList_iff.1 hp⟩)
    have hkn : ∀ v ∈ parts.toList.map (fun p => ev E p.2), ¬ Names v (16 * nm) := fun v hv hn => by
      obtain ⟨p, _, rfl⟩ := List.mem_map.1 hv; exact hcl.ev p.2 hn
    have key : ∀ zs : List Value, zs.length = len * tsz P e → (∀ y ∈ zs, y.oneCell' = true) → ∃ cur : Array Value, Instr.fill (fun i => some (i * tsz P e, tsz P e)) zs.toArray (parts.map fun (i, x) => (i, a.eval x)).toList = some cur ∧ cur.size = len * tsz P e ∧
        Filled w ρ Im ⟨e, tsz P e, parts.toList.map fun p => ev E p.2⟩ cur := fun zs hzs hz1 => by
      obtain ⟨cs', hf, hcl', _, hall⟩ := fill_row hz (parts.toList.map fun p => (p.1, ev E p.2)) 0 len (List.replicate (len * tsz P e) .any)
        (by rw [List.map_map, List.length_map, hlen, ← List.range_eq_range', ← hidx]; rfl) (fun p hp => by obtain ⟨q, hq, rfl⟩ := List.mem_map.1 hp; exact hparts q hq) (by simp) (by simp [hlen])
      have hany : Reps w ρ Im (List.replicate (len * tsz P e) .any) zs := ⟨by simp [hzs], fun j c y hc _ => by
        rw [List.getElem?_replicate] at hc; split at hc <;> simp at hc; subst hc; exact .im _ _ (.any _)⟩
      obtain ⟨ys', hfill, hrep, h1'⟩ := fill_sound _ _ _ _ _ hp hf hany hz1
      refine ⟨ys'.toArray, by simpa using hfill, by simp [← hrep.1, hcl'], ?_, ?_, fun i v j c hv hc => ?_⟩
      · intro v hv; obtain ⟨p, hp, rfl⟩ := List.mem_map.1 hv; exact (hparts p hp).2
      · simp [hlen, ← hrep.1, hcl']
      · have hcs := hall i j v c (by simpa [List.map_map] using hv) hc
        rw [Nat.zero_add] at hcs
        have hlt : i * tsz P e + j < ys'.length := by rw [← hrep.1]; exact (List.getElem?_eq_some_iff.1 hcs).1
        exact ⟨ys'[i * tsz P e + j], by simp [hlt], h1' _ (List.getElem_mem hlt), hrep.2 _ c _ hcs (List.getElem?_eq_getElem hlt)⟩
    have fin : ∀ cur : Array Value, cur.size = len * tsz P e → Filled w ρ Im ⟨e, tsz P e, parts.toList.map fun p => ev E p.2⟩ cur →
        Wit C (upd E d (.own (16 * nm) (tsz P e) 0 len)) (addS σ [(16 * nm, ⟨e, tsz P e, parts.toList.map fun p => ev E p.2⟩)]) (a.put (some d) (.slice (some ⟨w.heap.size, 0, none⟩) len len)) (w.alloc (.cells cur e)) (updR ρ (16 * nm) (some w.heap.size)) Im M := fun cur hcur hfl => by
      refine h.newBlock hG (hpn 0 (by omega)) hcl (k := ⟨e, tsz P e, _⟩) hfl hkn (Nat.pos_iff_ne_zero.1 hz) (dst := some d) (fun _ e => by cases e; exact hd) ?_
      exact .own (16 * nm) (tsz P e) len w.heap.size len cur e (by simp) (Nat.le_refl _) (by simp only [maxLen]; have := Nat.le_mul_of_pos_right len hz; omega) (cells_of (World.alloc_heap_new w _)) hcur (Nat.pos_iff_ne_zero.1 hz)
    by_cases h0 : len * tsz P e = 0
    · have hl0 : len = 0 := by rcases Nat.mul_eq_zero.1 h0 with h' | h'; exact h'; omega
      obtain ⟨cur, hfill, hcs, hfl⟩ := key [] (by simp [h0]) (by simp)
      refine ⟨_, _, _, ?_, fin cur hcs hfl⟩
      have hp0 : parts = #[] := by rw [← Array.toArray_toList (xs := parts), List.eq_nil_of_length_eq_zero (hlen.trans hl0)]
      subst hp0; subst hl0
      simp [Instr.fill] at hfill; subst hfill
      simp [execOp, Instr.buildSlice, run_underlying (tel_of he), run_sizeOf' hz, Instr.fill, newRow, Array.range_zero']
    · -- the zero value's cells are overwritten
      obtain ⟨zs, hzc, hzsl, hz1, _⟩ := Value.cells_ofC hzok
      have hzn : zs.length = tsz P e := by rw [← hzsl]; exact hzl
      obtain ⟨cur, hfill, hcs, hfl⟩ := key ((List.range (len * tsz P e)).map fun k => zs[k % zs.length]!) (by simp) (fun y hy => by
        obtain ⟨k, _, rfl⟩ := List.mem_map.1 hy
        have hlt : k % zs.length < zs.length := Nat.mod_lt _ (by omega)
        rw [getElem!_pos zs _ hlt]; exact hz1 _ (List.getElem_mem hlt))
      refine ⟨_, _, _, ?_, fin cur hcs hfl⟩
      have hinit : (Array.range (len * tsz P e)).map (zs.toArray[· % zs.toArray.size]!) = ((List.range (len * tsz P e)).map fun k => zs[k % zs.length]!).toArray := by
        rw [← List.toArray_range, List.map_toArray]; congr 1; apply List.map_congr_left; intro k _; simp
      have hnb : ¬ (len * tsz P e > 2 ^ 24) := by simp; omega
      simp only [execOp, Instr.buildSlice, Sem.run_bind, run_underlying (tel_of he) w, Result.andThen_ok, run_sizeOf' hz w, hnb, if_false, h0, run_zero hzv w, Sem.run_pure, hzc, hinit, hfill, newRow, run_newObj_alloc]
  · -- makeSlice
    rename_i t l c
    split at hv
    · rename_i kl n kc m hl hc
      obtain ⟨e, he, hz, z, hzv, hok, hzl, h0, hnm, hby, h63, rfl, rfl⟩ := hv
      have hl' := rep l (by simp [Op.operands]); have hc' := rep c (by simp [Op.operands])
      rw [hl] at hl'; rw [hc] at hc'
      have hl' := hl'.v_inv; have hc' := hc'.v_inv
      obtain ⟨i, hi, hiz, his, hib⟩ := tz_of hzv
      have hr := run_make (P := P) w t e i z (tel_of he) hi hiz kl kc n m h0 hnm (by rw [hib, Int.mul_comm]; exact hby) (by omega)
      obtain ⟨zs, hzc, hzsl, hz1, hzr⟩ := Value.cells_ofC hok
      have hzn : zs.length = tsz P e := by rw [← hzsl]; exact hzl
      have hsz : (madeCells z.cells (m.toNat * i.size)).size = m.toNat * tsz P e := by rw [size_madeCells, his]
      refine ⟨.slice (some ⟨w.heap.size, 0, none⟩) n.toNat m.toNat, w.alloc (.cells (madeCells z.cells (m.toNat * i.size)) e), updR ρ (16 * nm) (some w.heap.size), by simp [execOp, hl', hc', hr], ?_⟩
      refine h.newBlock hG (hpn 0 (by omega)) hcl (k := ⟨e, tsz P e, List.replicate n.toNat (ofC z)⟩) ?_ ?_ (Nat.pos_iff_ne_zero.1 hz) (dst := some d) (fun _ e => by cases e; exact hd) ?_
      · refine ⟨fun v hv => ?_, ?_, fun i' v j c' hv hc' => ?_⟩
        · simp only [List.mem_replicate] at hv; rw [hv.2]; exact hzl
        · rw [hsz]; simp only [List.length_replicate]; exact Nat.mul_le_mul_right _ (by omega)
        · simp only [List.getElem?_replicate] at hv
          split at hv
          · rename_i hlt
            simp at hv; subst hv
            have hj : j < zs.length := by rw [← hzsl]; exact (List.getElem?_eq_some_iff.1 hc').1
            refine ⟨zs[j], ?_, hz1 _ (List.getElem_mem hj), (hzr w ρ Im).2 j c' _ hc' (List.getElem?_eq_getElem hj)⟩
            simp only [madeCells, his]
            have hb : i' * tsz P e + j < m.toNat * tsz P e := by
              have : (i' + 1) * tsz P e ≤ m.toNat * tsz P e := Nat.mul_le_mul_right _ (by omega)
              rw [Nat.succ_mul] at this; omega
            have hmod : (i' * tsz P e + j) % tsz P e = j := by rw [Nat.add_comm, Nat.add_mul_mod_self_right]; exact Nat.mod_eq_of_lt (by omega)
            simp [hb, hzc, hzn, hmod, hzn ▸ hj]
          · cases hv
      · intro v hv hn
        simp only [List.mem_replicate] at hv
        rw [hv.2] at hn
        exact ofC_names hn
      · exact .own (16 * nm) (tsz P e) n.toNat w.heap.size m.toNat _ e (by simp) (by omega) (by simp only [maxLen]; omega) (cells_of (World.alloc_heap_new w _)) hsz (Nat.pos_iff_ne_zero.1 hz)
    · exact hv.elim
  · exact hv.elim
end Go.Vai
namespace Go.Vai
open Go.RowKit
variable {P : Program} {C : Fx} {w : World} {ρ : Nat → Option Nat} {Im : Nat → Prop} {M : Str} {E : Env} {σ : Store} {a : Act}
theorem Rep.carry {w' : World} {d : Nat} {ob : Option Nat} {v : AV} {y : Value} (h : Rep w ρ Im v y)
    (hb : ∀ k, (∃ id, ρ id = some k) ∨ Im k → w'.heap[k]? = w.heap[k]?) (hn : ¬ Names v d) : Rep w' (updR ρ d ob) Im v y :=
  h.mono (fun _ h => h) (fun b hI => hb b (.inr hI)) fun id hid =>
    ⟨updR_ne ρ d ob id (fun e => hn (e ▸ hid)), fun b hr cur e hc => ⟨cur, by rw [hb b (.inl ⟨id, hr⟩)]; exact hc, rfl⟩⟩
theorem Inv.adopt {w' : World} (h : Inv w ρ Im σ) (hs : w.heap.size ≤ w'.heap.size) (hb : ∀ k, (∃ id, ρ id = some k) ∨ Im k → w'.heap[k]? = w.heap[k]?) {d : Nat} {k : Blk} {g : Nat}
    (hcl : Clean d E σ) (hg : ∀ id, ρ id ≠ some g) (hgI : ¬ Im g) (hz : k.sz ≠ 0)
    {cur : Array Value} (hc : (∃ fr, w'.heap[g]? = some (.cells cur k.e fr) ∧ Mk fr cur.size)) (hf : Filled w' (updR ρ d (some g)) Im k cur) :
    Inv w' (updR ρ d (some g)) Im (updS σ d k) where
  nil := fun id k' hk hr => by
    by_cases e : id = d
    · subst e; simp at hr
    · rw [updS_ne _ _ _ _ e] at hk; rw [updR_ne _ _ _ _ e] at hr; exact h.nil id k' hk hr
  map := fun id k' b hk hr hz' => by
    by_cases e : id = d
    · subst e; simp at hk; subst hk; exact absurd hz' hz
    · rw [updS_ne _ _ _ _ e] at hk; rw [updR_ne _ _ _ _ e] at hr
      obtain ⟨ents, clk, hbb, hl, hcc⟩ := h.map id k' b hk hr hz'
      refine ⟨ents, clk, by rw [hb b (.inl ⟨id, hr⟩)]; exact hbb, hl, fun i m hm => ?_⟩
      obtain ⟨v, hv, hr'⟩ := hcc i m hm
      exact ⟨v, hv, hr'.carry hb fun hn => hcl.2.2 id k' hk _ (List.mem_of_getElem? hv) (.tup _ v d (by simp) hn)⟩
  blk := fun id k' b hk hr hz' => by
    by_cases e : id = d
    · subst e; simp at hk hr; subst hk; subst hr; exact ⟨cur, hc, hf⟩
    · rw [updS_ne _ _ _ _ e] at hk; rw [updR_ne _ _ _ _ e] at hr
      obtain ⟨cur', hbb, hl, hs', hcc⟩ := h.blk id k' b hk hr hz'
      refine ⟨cur', by rw [hb b (.inl ⟨id, hr⟩)]; exact hbb, hl, hs', fun i e' j c he hc' => ?_⟩
      obtain ⟨x, hx, h1, hr'⟩ := hcc i e' j c he hc'
      exact ⟨x, hx, h1, hr'.carry hb fun hn => hcl.2.2 id k' hk e' (List.mem_of_getElem? he) (cells_names' (List.mem_of_getElem? hc') hn)⟩
  inj := fun i j b h1 h2 => by
    by_cases e1 : i = d <;> by_cases e2 : j = d
    · rw [e1, e2]
    · subst e1; rw [updR_same] at h1; rw [updR_ne _ _ _ _ e2] at h2; cases h1; exact absurd h2 (hg j)
    · subst e2; rw [updR_same] at h2; rw [updR_ne _ _ _ _ e1] at h1; cases h2; exact absurd h1 (hg i)
    · rw [updR_ne _ _ _ _ e1] at h1; rw [updR_ne _ _ _ _ e2] at h2; exact h.inj i j b h1 h2
  live := fun i b hr hs' => by
    by_cases e : i = d
    · subst e; simp at hs'
    · rw [updR_ne _ _ _ _ e] at hr; rw [updS_ne _ _ _ _ e] at hs'; exact h.live i b hr hs'
  apart := fun i b hr hI => by
    by_cases e : i = d
    · subst e; rw [updR_same] at hr; cases hr; exact hgI hI
    · rw [updR_ne _ _ _ _ e] at hr; exact h.apart i b hr hI
  low := fun b hI => Nat.lt_of_lt_of_le (h.low b hI) hs
def srcEls (σ : Store) (x : AV) (K : Nat → List AV → Prop) : Prop :=
  match x with
  | .sl sz es => K sz es
  | .v (.string s) => K 1 ((bI s).map Y)
  | .own id sz i n => ∃ k, σ id = some k ∧ k.sz = sz ∧ i + n ≤ k.es.length ∧ K sz ((k.es.drop i).take n)
  | _ => False
def appT (P : Program) (t t' : TypeId) (x : AV) : Bool := match x with
  | .v (.string _) => tstr P t'
  | _ => t' == t
def appV (P : Program) (op : Op) (E : Env) (σ : Store) (K : Nat → Nat → Nat → Blk → Prop) : Prop :=
  match op with
  | .call { callee := .builtin .append, args, argTypes } => match args.toList, argTypes.toList with
    | [s, x], [t, t'] => appT P t t' (ev E x) = true ∧ ∃ e, tel P t = some e ∧ 0 < tsz P e ∧ (∃ z, tz P e = some z ∧ (ofC z).ok = true ∧ (ofC z).cells.length = tsz P e) ∧
        match ev E s with
        | .own id sz 0 n => sz = tsz P e ∧ ∃ k, σ id = some k ∧ k.sz = sz ∧ k.e = e ∧ n ≤ k.es.length ∧ srcEls σ (ev E x) fun sz' xs => (xs ≠ [] → sz' = sz) ∧ (∀ e ∈ xs, e.ok = true ∧ e.cells.length = sz) ∧
            (n + xs.length) * tby P e ≤ 140737488355328 ∧ n + xs.length ≤ 4611686018427387904 ∧ K id sz (n + xs.length) ⟨e, sz, k.es.take n ++ xs⟩
        | _ => False
    | _, _ => False
  | _ => False
theorem src_cells (hinv : Inv w ρ Im σ) {x : AV} {y : Value} {K : Nat → List AV → Prop} (h : srcEls σ x K) (hr : Rep w ρ Im x y) :
    ∃ sz xs, K sz xs ∧ ((∃ ad cap, y = .slice ad xs.length cap ∧ (∀ s, x ≠ .v (.string s)) ∧ ((xs = [] ∧ (∀ b, ad = some b → True)) ∨ ∃ b o, ad = some ⟨b, o, none⟩ ∧ (∀ e ∈ xs, e.cells.length = sz) ∧
      ∀ (i : Nat) (e : AV) (j : Nat) (c : AV), xs[i]? = some e → e.cells[j]? = some c → ∃ v, w.cell? ⟨b, o + i * sz + j, none⟩ = some v ∧ v.oneCell' = true ∧ Rep w ρ Im c v)) ∨ ∃ s, x = .v (.string s) ∧ y = .string s ∧ sz = 1 ∧ xs = (bI s).map Y) := by
  by_cases hstr : ∃ s, x = .v (.string s)
  · obtain ⟨s, rfl⟩ := hstr
    exact ⟨1, _, h, .inr ⟨s, rfl, hr.v_inv, rfl, rfl⟩⟩
  have hns : ∀ s, x ≠ .v (.string s) := fun s e => hstr ⟨s, e⟩
  suffices hs : ∃ sz xs ad cap, K sz xs ∧ y = .slice ad xs.length cap ∧ ((xs = [] ∧ (∀ b, ad = some b → True)) ∨ ∃ b o, ad = some ⟨b, o, none⟩ ∧ (∀ e ∈ xs, e.cells.length = sz) ∧
      ∀ (i : Nat) (e : AV) (j : Nat) (c : AV), xs[i]? = some e → e.cells[j]? = some c → ∃ v, w.cell? ⟨b, o + i * sz + j, none⟩ = some v ∧ v.oneCell' = true ∧ Rep w ρ Im c v) by
    obtain ⟨sz, xs, ad, cap, h1, h2, h3⟩ := hs
    exact ⟨sz, xs, h1, .inl ⟨ad, cap, h2, hns, h3⟩⟩
  unfold srcEls at h
  split at h
  · rename_i sz es
    cases hr with
    | im _ _ hr =>
      cases hr with
      | slnil _ ad cap => exact ⟨sz, [], ad, cap, h, rfl, .inl ⟨rfl, fun _ _ => trivial⟩⟩
      | sl _ _ b o cap f hIm hcap hl hcc hrep =>
        refine ⟨sz, es, _, cap, h, rfl, .inr ⟨b, o, rfl, hl, fun i e j c he hc => ?_⟩⟩
        have hi := (List.getElem?_eq_some_iff.1 he).1
        have hj : j < sz := by rw [← hl e (List.mem_of_getElem? he)]; exact (List.getElem?_eq_some_iff.1 hc).1
        exact ⟨f i j, (hcc i j hi hj).1, (hcc i j hi hj).2, .im _ _ (hrep i e j c he hc)⟩
  · exact absurd rfl (hns _)
  · rename_i id sz i n
    obtain ⟨k, hk, rfl, hle, hK⟩ := h
    have hlen : ((k.es.drop i).take n).length = n := by rw [List.length_take, List.length_drop]; omega
    have go : ∀ b cap (ad : Option Addr), ρ id = some b → k.sz ≠ 0 → (n ≠ 0 → ad = some ⟨b, i * k.sz, none⟩) → y = .slice ad n cap →
        ∃ sz xs ad cap, K sz xs ∧ y = .slice ad xs.length cap ∧ ((xs = [] ∧ (∀ b, ad = some b → True)) ∨ ∃ b o, ad = some ⟨b, o, none⟩ ∧ (∀ e ∈ xs, e.cells.length = sz) ∧
          ∀ (i : Nat) (e : AV) (j : Nat) (c : AV), xs[i]? = some e → e.cells[j]? = some c → ∃ v, w.cell? ⟨b, o + i * sz + j, none⟩ = some v ∧ v.oneCell' = true ∧ Rep w ρ Im c v) := by
      intro b cap ad hρ hz had hy
      refine ⟨k.sz, _, ad, cap, hK, by rw [hlen]; exact hy, ?_⟩
      by_cases hn : n = 0
      · subst hn; exact .inl ⟨by simp, fun _ _ => trivial⟩
      · obtain ⟨cur, hb, hl, hs, hc⟩ := hinv.blk id k b hk hρ hz
        refine .inr ⟨b, i * k.sz, had hn, fun e he => hl e (List.mem_of_mem_drop (List.mem_of_mem_take he)), fun m e j c he hcc => ?_⟩
        rw [List.getElem?_take] at he
        split at he
        · rw [List.getElem?_drop] at he
          obtain ⟨v, hv, h1, hr⟩ := hc (i + m) e j c he hcc
          exact ⟨v, by rw [cells_at hb, ← Nat.add_mul]; exact hv, h1, hr⟩
        · cases he
    cases hr with
    | im _ _ hr => cases hr
    | ownNil _ _ hρ => exact ⟨k.sz, [], none, 0, by simpa using hK, rfl, .inl ⟨rfl, fun _ _ => trivial⟩⟩
    | own _ _ _ b cap cur e' hρ hn hcap hb hs hz => exact go b cap _ hρ hz (by simp) rfl
    | ownAt _ _ _ _ b cap ad hi hρ hn ha hz => exact go b cap ad hρ hz ha rfl
  · exact h.elim
theorem flat_cells {sz : Nat} {xs : List AV} {b o : Nat} (hl : ∀ e ∈ xs, e.cells.length = sz)
    (h : ∀ (i : Nat) (e : AV) (j : Nat) (c : AV), xs[i]? = some e → e.cells[j]? = some c → ∃ v, w.cell? ⟨b, o + i * sz + j, none⟩ = some v ∧ v.oneCell' = true ∧ Rep w ρ Im c v) :
    ∃ news : List Value, news.length = xs.length * sz ∧ (∀ (j : Nat) (v : Value), news[j]? = some v → w.cell? ((⟨b, o, none⟩ : Addr).add j) = some v) ∧ (∀ v ∈ news, v.oneCell' = true) ∧
      ∀ (i : Nat) (e : AV) (j : Nat) (c : AV), xs[i]? = some e → e.cells[j]? = some c → ∃ v, news[i * sz + j]? = some v ∧ Rep w ρ Im c v := by
  have pos : ∀ k, k < xs.length * sz → 0 < sz := fun k hk => by
    rcases Nat.eq_zero_or_pos sz with h0 | h0
    · subst h0; simp at hk
    · exact h0
  have all : ∀ k, k < xs.length * sz → ∃ v, w.cell? ⟨b, o + k, none⟩ = some v ∧ v.oneCell' = true := fun k hk => by
    have hp := pos k hk
    have hi : k / sz < xs.length := (Nat.div_lt_iff_lt_mul hp).2 hk
    have hj : k % sz < xs[k / sz].cells.length := by rw [hl _ (List.getElem_mem hi)]; exact Nat.mod_lt _ hp
    obtain ⟨v, hv, h1, _⟩ := h (k / sz) xs[k / sz] (k % sz) _ (List.getElem?_eq_getElem hi) (List.getElem?_eq_getElem hj)
    refine ⟨v, ?_, h1⟩
    rw [Nat.add_assoc, Nat.mul_comm, Nat.div_add_mod] at hv; exact hv
  refine ⟨(List.range (xs.length * sz)).map fun k => (w.cell? ⟨b, o + k, none⟩).getD undef, by simp, fun j v hv => ?_, fun v hv => ?_, fun i e j c he hc => ?_⟩
  · have hlt := (List.getElem?_eq_some_iff.1 hv).1
    simp at hlt
    obtain ⟨v', hv', _⟩ := all j hlt
    simp [hlt, hv'] at hv; subst hv; rw [add_none]; exact hv'
  · obtain ⟨k, hk, rfl⟩ := List.mem_map.1 hv
    obtain ⟨v', hv', h1⟩ := all k (by simpa using hk)
    simpa [hv'] using h1
  · obtain ⟨v, hv, _, hr⟩ := h i e j c he hc
    have hi := (List.getElem?_eq_some_iff.1 he).1
    have hj : j < sz := by rw [← hl e (List.mem_of_getElem? he)]; exact (List.getElem?_eq_some_iff.1 hc).1
    have hlt : i * sz + j < xs.length * sz := by
      have : (i + 1) * sz ≤ xs.length * sz := Nat.mul_le_mul_right _ hi
      rw [Nat.succ_mul] at this; omega
    refine ⟨v, ?_, hr⟩
    rw [Nat.add_assoc] at hv
    simp [hlt, hv]
end Go.Vai
namespace Go.Vai
open Go.RowKit
variable {P : Program} {C : Fx} {w : World} {ρ : Nat → Option Nat} {Im : Nat → Prop} {M : Str} {E : Env} {σ : Store} {a : Act}
def isId (id : Nat) : Nat → Bool := fun i => i == id
def srcTy (P : Program) (t : TypeId) : Prop := (∃ e, P.underlying t = some (.slice e)) ∨ P.underlying t = some .string
theorem mk_free {w : World} {g : Nat} {cur : Array Value} {t : TypeId} {fr : Nat × Nat} (hg : w.heap[g]? = some (.cells cur t fr)) (hf : Mk fr cur.size) {i : Nat} (hi : i < cur.size) : w.frozen? ⟨g, i, none⟩ = false := by
  rcases hf with rfl | rfl
  · simp [World.frozen?, hg]
  · simp [World.frozen?, hg]; omega
theorem setRow_mk {w : World} {g : Nat} {cur cur' : Array Value} {t : TypeId} (hg : ∃ fr, w.heap[g]? = some (.cells cur t fr) ∧ Mk fr cur.size) (hs : cur'.size = cur.size) : ∃ fr, (w.setRow g cur').heap[g]? = some (.cells cur' t fr) ∧ Mk fr cur'.size := by
  obtain ⟨fr, hg, hf⟩ := hg; exact ⟨fr, setRow_heap w g cur cur' t fr hg, by rw [hs]; exact hf⟩
theorem storeCells_mk (P : Program) (g o : Nat) (t : TypeId) : ∀ (vs : List Value) (i : Nat) (cur : Array Value) (w : World), (∃ fr, w.heap[g]? = some (.cells cur t fr) ∧ Mk fr cur.size) → o + i + vs.length ≤ cur.size → (∀ v ∈ vs, v.oneCell' = true) →
    (storeCells ⟨g, o, none⟩ vs i).run P w = .ok () (w.setRow g (cur.toList.take (o + i) ++ vs ++ cur.toList.drop (o + i + vs.length)).toArray) := by
  intro vs
  induction vs with
  | nil =>
    intro i cur w hg _ _
    obtain ⟨fr, hg, _⟩ := hg
    have e : (cur.toList.take (o + i) ++ [] ++ cur.toList.drop (o + i + ([] : List Value).length)).toArray = cur := by simp
    rw [e, setRow_self w g cur t fr hg]; rfl
  | cons v rest ih =>
    intro i cur w hg hl h1
    obtain ⟨fr, hg, hf⟩ := hg
    have hi : o + i < cur.size := by simp at hl; omega
    have hadd : (⟨g, o, none⟩ : Addr).add i = ⟨g, o + i, none⟩ := by unfold Addr.add; split <;> simp_all
    have hst : (store ((⟨g, o, none⟩ : Addr).add i) v).run P w = .ok () (w.setRow g (cur.setIfInBounds (o + i) v)) := by
      have hcell : w.cell? ⟨g, o + i, none⟩ = some cur[o + i] := by simp [World.cell?, hg, hi]
      rw [hadd, run_store P w _ v _ (h1 v (by simp)), hcell]
      simp [mk_free hg hf hi, setCell_eq_setRow w g (o + i) cur t fr v hg]
    have ih := ih (i + 1) (cur.setIfInBounds (o + i) v) (w.setRow g (cur.setIfInBounds (o + i) v)) (setRow_mk ⟨fr, hg, hf⟩ (by simp)) (by simp at hl ⊢; omega) (fun x hx => h1 x (by simp [hx]))
    simp only [storeCells, Sem.run_bind, hst, Result.andThen_ok, ih, setRow_setRow]
    congr 3
    have e := list_seg_step cur.toList (o + i) v rest (by simp at hl ⊢; omega)
    simpa [Array.toList_setIfInBounds, Nat.add_assoc] using e
theorem append_room_mk {P : Program} (w : World) (t t' ty e : TypeId) (i : TypeInfo) (ht : P.underlying t = some (.slice e)) (hi : P.info? e = some i) (hu : srcTy P t')
    (g n cap : Nat) (cur : Array Value) (hg : ∃ fr, w.heap[g]? = some (.cells cur e fr) ∧ Mk fr cur.size)
    (y : Value) (m : Nat) (news : List Value) (hlen : ∀ v, (Builtin.lenOf y).run P v = .ok m v) (hf : (Builtin.firstCells i.size m y).run P w = .ok news.toArray w) (h1 : ∀ u ∈ news, u.oneCell' = true)
    (hroom : n + m ≤ cap) (hfit : n * i.size + news.length ≤ cur.size) :
    (Builtin.append_ #[t, t'] ty #[.slice (some ⟨g, 0, none⟩) n cap, y]).run P w =
      .ok (.slice (some ⟨g, 0, none⟩) (n + m) cap) (w.setRow g (cur.toList.take (n * i.size) ++ news ++ cur.toList.drop (n * i.size + news.length)).toArray) := by
  have hst := storeCells_mk P g (n * i.size) e news 0 cur w hg (by simpa using hfit) h1
  simp only [Nat.add_zero] at hst
  rcases hu with ⟨e', hu⟩ | hu <;> simp [Builtin.append_, run_underlying ht, run_underlying hu, sizeOf, typeInfo, hi, hlen, hroom, hf, Addr.add_lit, hst]
theorem append_nil_mk {P : Program} (w : World) (t t' ty e : TypeId) (i : TypeInfo) (z : Value) (ht : P.underlying t = some (.slice e)) (hi : P.info? e = some i) (hz : i.zero = some z) (hu : srcTy P t')
    (y : Value) (m : Nat) (news : List Value) (hlen : ∀ v, (Builtin.lenOf y).run P v = .ok m v) (hf : (Builtin.firstCells i.size m y).run P w.drew = .ok news.toArray w.drew)
    (h0 : 0 < m) (h63 : (m : Int) ≤ 9223372036854775807) (h48 : m * i.bytes ≤ 281474976710656) :
    (Builtin.append_ #[t, t'] ty #[.slice none 0 0, y]).run P w =
      .ok (.slice (some ⟨w.heap.size, 0, none⟩) m (grownCap w m 0 e)) (w.drew.alloc (.cells (news.toArray ++ Builtin.zeroCells z.cells (grownCap w m 0 e - m)) e)) := by
  have hn : m ≠ 0 := by omega
  have h63' : ¬ (9223372036854775807 < (m : Int)) := by omega
  have h48' : ¬ (281474976710656 < Builtin.nextslicecap m 0 * i.bytes) := by rw [nextslicecap_zero h0]; omega
  rcases hu with ⟨e', hu⟩ | hu <;> simp [Builtin.append_, run_underlying ht, run_underlying hu, sizeOf, typeInfo, zeroValue, hi, hz, hlen, hn, h63', h48', Question.forced, run_firstCells_none, hf, newRow, grownCap]
theorem append_grow_mk {P : Program} (w : World) (t t' ty e : TypeId) (i : TypeInfo) (z : Value) (ht : P.underlying t = some (.slice e)) (hi : P.info? e = some i) (hz : i.zero = some z) (hu : srcTy P t')
    (b : Addr) (n cap : Nat) (olds : List Value) (hlo : olds.length = n * i.size) (holds : ∀ j v, olds[j]? = some v → w.cell? (b.add j) = some v)
    (y : Value) (m : Nat) (news : List Value) (hlen : ∀ v, (Builtin.lenOf y).run P v = .ok m v) (hf : (Builtin.firstCells i.size m y).run P w.drew = .ok news.toArray w.drew)
    (hg : cap < n + m) (h63 : ((n + m : Nat) : Int) ≤ 9223372036854775807) (hfit : Builtin.nextslicecap (n + m) cap * i.bytes ≤ 281474976710656) :
    (Builtin.append_ #[t, t'] ty #[.slice (some b) n cap, y]).run P w =
      .ok (.slice (some ⟨w.heap.size, 0, none⟩) (n + m) (grownCap w (n + m) cap e))
        (w.drew.alloc (.cells (olds.toArray ++ news.toArray ++ Builtin.zeroCells z.cells (grownCap w (n + m) cap e - (n + m))) e)) := by
  have hn : ¬ (n + m ≤ cap) := by omega
  have h63' : ¬ (9223372036854775807 < ((n : Int) + (m : Int))) := by omega
  have h48' : ¬ (281474976710656 < Builtin.nextslicecap (n + m) cap * i.bytes) := by omega
  have hfo := run_firstCells_some (P := P) w.drew i.size n b n cap olds hlo (by simpa using holds)
  rcases hu with ⟨e', hu⟩ | hu <;>
      (simp [Builtin.append_, run_underlying ht, run_underlying hu, sizeOf, typeInfo, zeroValue, hi, hz, hlen, hn, h63', h48', Question.forced, hf, hfo, newRow, grownCap]
       congr 2
       apply Array.ext'
       simp [List.append_assoc])
theorem bytes_first {P : Program} (size : Nat) (s : ByteArray) (v : World) : (Builtin.firstCells size s.size (.string s)).run P v = .ok ((bI s).map fun n => Value.int .u8 n).toArray v := by
  rw [Lib.run_firstCells_string]
  simp only [Lib.strCells, bI, List.map_map]; rfl
theorem bI_length (s : ByteArray) : (bI s).length = s.size := by rw [bI, List.length_map, Array.length_toList]; rfl
theorem filled_kill {w' : World} {id g : Nat} {k : Blk} {cur : Array Value} (hb : ∀ k, (∃ i, killR (isId id) ρ i = some k) ∨ Im k → w'.heap[k]? = w.heap[k]?)
    (hl : ∀ e ∈ k.es, e.cells.length = k.sz) (hs : k.es.length * k.sz ≤ cur.size)
    (h : ∀ (i : Nat) (e : AV) (j : Nat) (c : AV), k.es[i]? = some e → e.cells[j]? = some c → ∃ x, cur[i * k.sz + j]? = some x ∧ x.oneCell' = true ∧ Rep w ρ Im c x) :
    Filled w' (updR (killR (isId id) ρ) id (some g)) Im (k.kill (isId id)) cur := by
  obtain ⟨q1, q2, q3⟩ := Blk.kill_sz (isId id) k
  refine ⟨by rw [q1]; exact Blk.kill_len _ k hl, by rw [q1, q3]; exact hs, fun i e j c he hc => ?_⟩
  obtain ⟨e0, c0, he0, hc0, hor, hnn⟩ := Blk.kill_get (isId id) k he hc
  obtain ⟨x, hx, h1, hr⟩ := h i e0 j c0 he0 hc0
  rw [q1]
  refine ⟨x, hx, h1, Rep.carry (Rep.killR (p := isId id) ?_ fun id' hid => (hnn id' hid).2) hb fun hn => by have := (hnn id hn).2; simp [isId] at this⟩
  rcases hor with rfl | rfl
  · exact hr
  · exact hr.dk _
theorem pin_not {id : Nat} (h : C.pin id = none) : ∀ i b, C.pin i = some b → isId id i = false := fun i b hb => by
  simp only [isId, beq_eq_false_iff_ne]; rintro rfl; rw [h] at hb; cases hb
theorem Wit.renew (hG : GStable C.G) (h : Wit C E σ a w ρ Im M) {id d : Nat} (hd : d < C.N) {k : Blk} {cur : Array Value} {w' : World} {g : Nat}
    (hx : Ext w (fun b => ∃ i, ρ i = some b) w') (hg : (∃ i, isId id i = true ∧ ρ i = some g) ∨ w.heap.size ≤ g)
    (hb : ∀ k, k ≠ g → k < w.heap.size → w'.heap[k]? = w.heap[k]?) (hc : (∃ fr, w'.heap[g]? = some (.cells cur k.e fr) ∧ Mk fr cur.size))
    (hl : ∀ e ∈ k.es, e.cells.length = k.sz) (hs : k.es.length * k.sz ≤ cur.size)
    (hf : ∀ (i : Nat) (e : AV) (j : Nat) (c : AV), k.es[i]? = some e → e.cells[j]? = some c → ∃ x, cur[i * k.sz + j]? = some x ∧ x.oneCell' = true ∧ Rep w ρ Im c x)
    {sz n cap : Nat} (hn : n ≤ cap) (hcap : cap ≤ maxLen) (hsz : cur.size = cap * sz) (hz : sz ≠ 0) (hkz : k.sz ≠ 0) (hpn : C.pin id = none) :
    Wit C (upd (killE (isId id) E) d (.own id sz 0 n)) (updS (killS (isId id) σ) id (k.kill (isId id))) (a.put (some d) (.slice (some ⟨g, 0, none⟩) n cap)) w' (updR (killR (isId id) ρ) id (some g)) Im M := by
  have hpp := pin_not hpn
  have h1 := h.kill hG (isId id) hpp
  have hcl : Clean id (killE (isId id) E) (killS (isId id) σ) := clean_kill (by simp [isId]) E σ
  have hgr : ∀ i, killR (isId id) ρ i ≠ some g := fun i hi => by
    obtain ⟨hp, hi⟩ := killR_some hi
    rcases hg with ⟨i', hi', hr⟩ | hg
    · rw [h.inv.inj i i' g hi hr, hi'] at hp; cases hp
    · have := h.inv.lt hi; omega
  have hgI : ¬ Im g := fun hI => by
    rcases hg with ⟨i', _, hr⟩ | hg
    · exact h.inv.apart i' g hr hI
    · have := h.inv.low g hI; omega
  have hb' : ∀ k, (∃ i, killR (isId id) ρ i = some k) ∨ Im k → w'.heap[k]? = w.heap[k]? := fun k hk => by
    refine hb k (fun e => ?_) ?_
    · subst e; rcases hk with ⟨i, hi⟩ | hI
      · exact hgr i hi
      · exact hgI hI
    · rcases hk with ⟨i, hi⟩ | hI
      · exact h1.inv.lt hi
      · exact h.inv.low k hI
  have hke : (k.kill (isId id)).e = k.e := (Blk.kill_sz _ k).2.1
  refine h.step hG hx (h1.inv.adopt hx.size hb' hcl hgr hgI (by rw [(Blk.kill_sz _ k).1]; exact hkz) (by rw [hke]; exact hc) (filled_kill hb' hl hs hf)) ?_ (put_size a (some d) _) (put_defers ..) ?_ (fun i b hi => ?_) (fun _ hi => .inl hi) (pin_new h1 hpn) (fun _ h => h)
  · refine EnvRep.put (dst := some d) (tm := a) (E := killE (isId id) E) (fun t y hy => (h1.env t y hy).carry hb' (hcl.2.1 t)) ?_
    exact .own id sz n g cap cur k.e (by simp) hn hcap hc hsz hz
  · have : upd (killE (isId id) E) d (.own id sz 0 n) C.N = killE (isId id) E C.N := by simp only [upd]; rw [if_neg (by omega)]
    rw [this]; exact kill_of_not (h.gh _)
  · by_cases e : i = id
    · subst e; simp at hi; subst hi
      rcases hg with ⟨i', he, hr⟩ | hg
      · obtain rfl : i' = i := by simpa [isId] using he
        exact .inl hr
      · exact .inr hg
    · rw [updR_ne _ _ _ _ e] at hi; exact .inl (killR_some hi).2
theorem Wit.renewNil (hG : GStable C.G) (h : Wit C E σ a w ρ Im M) {id d : Nat} (hd : d < C.N) (e sz : Nat) (hpn : C.pin id = none) :
    Wit C (upd (killE (isId id) E) d (.own id sz 0 0)) (updS (killS (isId id) σ) id ((⟨e, sz, []⟩ : Blk).kill (isId id))) (a.put (some d) (.slice none 0 0)) w (updR (killR (isId id) ρ) id none) Im M := by
  have h1 := h.kill hG (isId id) (pin_not hpn)
  have : (⟨e, sz, []⟩ : Blk).kill (isId id) = ⟨e, sz, []⟩ := by simp [Blk.kill, AV.namesL]
  rw [this]
  exact h1.newNil hG hpn (clean_kill (by simp [isId]) E σ) e sz (dst := some d) (fun _ e => by cases e; exact hd) (.ownNil _ _ (by simp))
theorem run_append_zero {t t' e : TypeId} {ty : TypeId} (ht : tel P t = some e) (hz : 0 < tsz P e) (hu : srcTy P t') (ad : Option Addr) (n cap : Nat) (h : n ≤ cap) (y : Value)
    (hlen : ∀ v, (Builtin.lenOf y).run P v = .ok 0 v) (hf : ∀ v, (Builtin.firstCells (tsz P e) 0 y).run P v = .ok #[] v) (w : World) :
    (Builtin.append_ #[t, t'] ty #[.slice ad n cap, y]).run P w = .ok (.slice ad n cap) w := by
  rcases hu with ⟨e', hu⟩ | hu <;> cases ad <;> simp [Builtin.append_, run_underlying (tel_of ht), run_underlying hu, run_sizeOf' hz, hlen, h, hf, storeCells]
theorem Rep.own0_inv {id sz n : Nat} {y : Value} (h : Rep w ρ Im (.own id sz 0 n) y) : (y = .slice none 0 0 ∧ n = 0 ∧ ρ id = none) ∨
    ∃ b cap cur e, y = .slice (some ⟨b, 0, none⟩) n cap ∧ ρ id = some b ∧ n ≤ cap ∧ cap ≤ maxLen ∧ (∃ fr, w.heap[b]? = some (.cells cur e fr) ∧ Mk fr cur.size) ∧ cur.size = cap * sz ∧ sz ≠ 0 := by
  cases h with
  | im _ _ h => cases h
  | ownNil _ _ hρ => exact .inl ⟨rfl, rfl, hρ⟩
  | own _ _ _ b cap cur e hρ hn hcap hb hs hz => exact .inr ⟨b, cap, cur, e, rfl, hρ, hn, hcap, hb, hs, hz⟩
  | ownAt _ _ _ _ _ _ _ h0 => omega
theorem run_first0 {P : Program} (size : Nat) (y : Value) (v : World) (h : ∀ v, (Builtin.lenOf y).run P v = .ok 0 v) : (Builtin.firstCells size 0 y).run P v = .ok #[] v := by
  have h := h v
  cases y with
  | slice ad n c => cases ad <;> simp [Builtin.firstCells, loadCells, loadCellsFrom]
  | string s =>
    simp [Builtin.firstCells]
  | _ => simp [Builtin.lenOf] at h
theorem app_sound (hG : GStable C.G) (h : Wit C E σ a w ρ Im M) {d : Nat} (hd : d < C.N) {o : Oper} (ho : o.dst = some d) (hlow : Op.low C.N o.op = true)
    {K : Nat → Nat → Nat → Blk → Prop} (hv : appV P o.op E σ fun id sz n k => C.pin id = none ∧ K id sz n k) :
    ∃ id sz n k y w' ρ', K id sz n k ∧ (execOp a.eval o).run P w = .ok (.value y) w' ∧ Wit C (upd (killE (isId id) E) d (.own id sz 0 n)) (updS (killS (isId id) σ) id (k.kill (isId id))) (a.put o.dst y) w' ρ' Im M := by
  have rep : ∀ x, x ∈ o.op.operands → Rep w ρ Im (ev E x) (a.eval x) := fun x hx => ev_rep h.env (by rw [h.size]; exact low_of hlow hx)
  rw [ho]
  obtain ⟨dst, op, ty, pos, after, guard⟩ := o
  simp only at hlow hv rep ho
  unfold appV at hv
  split at hv
  · rename_i args argTypes
    split at hv
    · rename_i s x t t' hargs htypes
      have ha' : args = #[s, x] := by rw [← Array.toArray_toList (xs := args), hargs]
      have ht' : argTypes = #[t, t'] := by rw [← Array.toArray_toList (xs := argTypes), htypes]
      subst ha'; subst ht'
      obtain ⟨hty, e, he, hz, ⟨z, hzv, hzok, hzl⟩, hv⟩ := hv
      obtain ⟨i, hi, hiz, his, hib⟩ := tz_of hzv
      have hs := rep s (by simp [Op.operands, Call.operands])
      have hx := rep x (by simp [Op.operands, Call.operands])
      split at hv
      · rename_i id sz n hes
        rw [hes] at hs
        obtain ⟨rfl, k, hk, hksz, rfl, hn, hsrc⟩ := hv
        obtain ⟨sz', xs, ⟨hsz', hok, hby, h63, hpn, hK⟩, hsrc⟩ := src_cells h.inv hsrc hx
        have hsrc2 : ∃ (news : List Value), srcTy P t' ∧ (∀ v, (Builtin.lenOf (a.eval x)).run P v = .ok xs.length v) ∧
            (∀ v : World, v.heap = w.heap → (Builtin.firstCells (tsz P k.e) xs.length (a.eval x)).run P v = .ok news.toArray v) ∧ news.length = xs.length * tsz P k.e ∧ (∀ v ∈ news, v.oneCell' = true) ∧
            (∀ (i : Nat) (e : AV) (j : Nat) (c : AV), xs[i]? = some e → e.cells[j]? = some c → ∃ v, news[i * tsz P k.e + j]? = some v ∧ Rep w ρ Im c v) ∧ ∀ e ∈ xs, e.cells.length = tsz P k.e := by
          rcases hsrc with ⟨ad, cap, hy, hns, hmem⟩ | ⟨s', hxe, hy, h1, hxs⟩
          · have hty : t' = t := by
              unfold appT at hty
              split at hty
              · rename_i s' hxs'; exact absurd hxs' (hns s')
              · simpa using hty
            subst hty
            rcases hmem with ⟨h0, _⟩ | ⟨b', o', rfl, hxl, hxc⟩
            · subst h0
              refine ⟨[], .inl ⟨_, tel_of he⟩, fun v => by rw [hy]; simp [Builtin.lenOf], fun v _ => ?_, by simp, by simp, fun i e j c hi => by simp at hi, by simp⟩
              rw [hy]; cases ad <;> simp [Builtin.firstCells, loadCells, loadCellsFrom]
            · by_cases hx0 : xs = []
              · subst hx0
                refine ⟨[], .inl ⟨_, tel_of he⟩, fun v => by rw [hy]; simp [Builtin.lenOf], fun v _ => ?_, by simp, by simp, fun i e j c hi => by simp at hi, by simp⟩
                rw [hy]; simp [Builtin.firstCells, loadCells, loadCellsFrom]
              · have hsz' := hsz' hx0
                subst hsz'
                obtain ⟨news, hnl, hnc, hn1, hnr⟩ := flat_cells hxl hxc
                refine ⟨news, .inl ⟨_, tel_of he⟩, fun v => by rw [hy]; simp [Builtin.lenOf], fun v hv => ?_, hnl, hn1, hnr, hxl⟩
                rw [hy]
                exact run_firstCells_some v _ _ _ _ _ _ hnl fun j u hu => by rw [← hnc j u hu]; exact World.cell?_of_block (by rw [hv])
          · rw [hxe] at hty
            have hu := tstr_of (P := P) (t := t') hty
            subst h1
            have hl : xs.length = s'.size := by rw [hxs, List.length_map, bI_length]
            by_cases hx0 : xs = []
            · have h0 : s'.size = 0 := by rw [← hl, hx0]; rfl
              subst hx0
              refine ⟨[], .inr hu, fun v => by rw [hy]; simp [Builtin.lenOf, h0], fun v _ => ?_, by simp, by simp, fun i e j c hi => by simp at hi, by simp⟩
              have := bytes_first (P := P) (tsz P k.e) s' v
              rw [h0] at this
              rw [hy, List.length_nil, this]
              have hb : bI s' = [] := List.eq_nil_of_length_eq_zero (by rw [bI_length, h0])
              rw [hb]; rfl
            · have h1 := hsz' hx0
              refine ⟨(bI s').map fun n => Value.int .u8 n, .inr hu, fun v => by rw [hy]; simp [Builtin.lenOf, hl], fun v _ => by rw [hy, hl]; exact bytes_first _ s' v, by rw [List.length_map, bI_length, hl, ← h1, Nat.mul_one], fun v hv => ?_, fun i e j c hi hc => ?_, fun e he => ?_⟩
              · obtain ⟨n, _, rfl⟩ := List.mem_map.1 hv; rfl
              · rw [hxs, List.getElem?_map] at hi
                cases hn : (bI s')[i]? with
                | none => simp [hn] at hi
                | some n =>
                  simp [hn] at hi; subst hi
                  cases j with
                  | succ j => simp at hc
                  | zero =>
                    simp at hc; subst hc
                    exact ⟨.int .u8 n, by rw [← h1]; simp [hn], .im _ _ (.v _)⟩
              · rw [hxs] at he
                obtain ⟨n, _, rfl⟩ := List.mem_map.1 he; rw [← h1]; rfl
        obtain ⟨news, hu', hlen, hfirst, hnl, hn1, hnr, hxl⟩ := hsrc2
        have exec : ∀ v u w', (Builtin.append_ #[t, t'] ty #[a.eval s, a.eval x]).run P w = .ok u w' → v = u → (execOp a.eval { dst, op := .call { callee := .builtin .append, args := #[s, x], argTypes := #[t, t'] }, type := ty, pos, after, guard }).run P w = .ok (.value v) w' := by
          rintro v u w' hr rfl
          simp [execOp, resolve, invoke, builtin, hr]
        have hzc : z.cells.size = i.size := by
          obtain ⟨zs, h1, h2, _⟩ := Value.cells_ofC hzok
          rw [h1, his]; simp [← h2, hzl]
        by_cases hx0 : xs = []
        · -- nothing is appended
          subst hx0
          simp only [List.length_nil, Nat.add_zero, List.append_nil] at hK hlen
          rcases hs.own0_inv with ⟨hsy, rfl, hρ⟩ | ⟨b, cap', cur, e', hsy, hρ, hnc, hcap, hb, hsz, hnz⟩
          · have hk0 := h.inv.nil id k hk hρ
            refine ⟨id, tsz P k.e, 0, _, _, w, updR (killR (isId id) ρ) id none, hK, exec _ _ _ (by rw [hsy]; exact run_append_zero he hz hu' none 0 0 (Nat.le_refl _) _ hlen (fun v => run_first0 _ _ v hlen) w) rfl, ?_⟩
            rw [hk0]; simp only [List.take_nil]
            exact h.renewNil hG hd k.e _ hpn
          · obtain ⟨cur2, hb2, hl, hs2, hc2⟩ := h.inv.blk id k b hk hρ (by omega)
            obtain ⟨rfl, rfl⟩ := cells_uniq hb hb2
            refine ⟨id, tsz P k.e, n, _, _, w, updR (killR (isId id) ρ) id (some b), hK, exec _ _ _ (by rw [hsy]; exact run_append_zero he hz hu' _ n cap' hnc _ hlen (fun v => run_first0 _ _ v hlen) w) rfl, ?_⟩
            refine h.renew hG hd (k := ⟨k.e, tsz P k.e, k.es.take n⟩) (g := b) (Ext.refl _ _) (.inl ⟨id, by simp [isId], hρ⟩) (fun _ _ _ => rfl) hb (fun e he => by rw [← hksz]; exact hl e (List.mem_of_mem_take he)) ?_ (fun i e j c he hc => ?_) hnc hcap hsz hnz (Nat.pos_iff_ne_zero.1 hz) hpn
            · simp only [List.length_take]; rw [hsz]; exact Nat.mul_le_mul_right _ (by omega)
            · simp only at he
              rw [List.getElem?_take] at he
              split at he
              · have := hc2 i e j c he hc; rw [hksz] at this; exact this
              · cases he
        · -- elements
          have hm : 0 < xs.length := List.length_pos_iff.2 hx0
          have hcapm : ∀ old, grownCap w (n + xs.length) old k.e ≤ maxLen := fun old => grownCap_le_maxLen w _ old k.e (by simp only [maxLen]; omega)
          have hcapg : ∀ old, n + xs.length ≤ grownCap w (n + xs.length) old k.e := fun old => grownCap_ge w _ old k.e
          -- what the new block holds: 'olds', 'news'
          have hold : ∃ olds : List Value, olds.length = n * tsz P k.e ∧ (∀ v ∈ olds, v.oneCell' = true) ∧
              (∀ (b : Nat) (cur : Array Value), ρ id = some b → (∃ fr, w.heap[b]? = some (.cells cur k.e fr) ∧ Mk fr cur.size) → olds = cur.toList.take (n * tsz P k.e)) ∧
              ∀ (i : Nat) (e : AV) (j : Nat) (c : AV), i < n → k.es[i]? = some e → e.cells[j]? = some c → ∃ v, olds[i * tsz P k.e + j]? = some v ∧ v.oneCell' = true ∧ Rep w ρ Im c v := by
            cases hρ : ρ id with
            | none =>
              have hk0 := h.inv.nil id k hk hρ
              rw [hk0] at hn
              have : n = 0 := by simpa using hn
              subst this
              exact ⟨[], by simp, by simp, fun b cur hb => by simp at hb, fun i e j c hi => by omega⟩
            | some b =>
              obtain ⟨cur, hb, hl, hs2, hc2⟩ := h.inv.blk id k b hk hρ (by omega)
              rw [hksz] at hs2 hc2
              have hle : n * tsz P k.e ≤ cur.size := Nat.le_trans (Nat.mul_le_mul_right _ hn) hs2
              refine ⟨cur.toList.take (n * tsz P k.e), by simp; omega, fun v hv => ?_, fun b' cur' hb' hcur' => ?_, fun i e j c hi hec hcc => ?_⟩
              · obtain ⟨q, hq⟩ := List.mem_iff_getElem?.1 hv
                rw [List.getElem?_take] at hq
                split at hq
                · rename_i hlt
                  have hi' : q / tsz P k.e < k.es.length := Nat.lt_of_lt_of_le ((Nat.div_lt_iff_lt_mul hz).2 hlt) hn
                  have hj' : q % tsz P k.e < (k.es[q / tsz P k.e]).cells.length := by rw [hl _ (List.getElem_mem hi'), hksz]; exact Nat.mod_lt _ hz
                  obtain ⟨x', hx', h1', _⟩ := hc2 (q / tsz P k.e) _ (q % tsz P k.e) _ (List.getElem?_eq_getElem hi') (List.getElem?_eq_getElem hj')
                  rw [Nat.mul_comm, Nat.div_add_mod] at hx'
                  have : cur.toList[q]? = some x' := by simpa using hx'
                  rw [this] at hq; cases hq; exact h1'
                · cases hq
              · cases hb'; obtain ⟨rfl, _⟩ := cells_uniq hb hcur'; rfl
              · obtain ⟨x', hx', h1', hr'⟩ := hc2 i e j c hec hcc
                have hj : j < tsz P k.e := by rw [← hksz, ← hl e (List.mem_of_getElem? hec)]; exact (List.getElem?_eq_some_iff.1 hcc).1
                have hlt : i * tsz P k.e + j < n * tsz P k.e := by
                  have : (i + 1) * tsz P k.e ≤ n * tsz P k.e := Nat.mul_le_mul_right _ hi
                  rw [Nat.succ_mul] at this; omega
                exact ⟨x', by rw [List.getElem?_take, if_pos hlt]; simpa using hx', h1', hr'⟩
          obtain ⟨olds, hol, ho1, hoeq, hor⟩ := hold
          have hes : (k.es.take n).length = n := by rw [List.length_take]; omega
          have hfill : ∀ rest : List Value, ∀ (i : Nat) (e : AV) (j : Nat) (c : AV), (k.es.take n ++ xs)[i]? = some e → e.cells[j]? = some c →
              ∃ x, (olds ++ news ++ rest)[i * tsz P k.e + j]? = some x ∧ x.oneCell' = true ∧ Rep w ρ Im c x := fun rest i e j c hec hcc => by
            by_cases hin : i < n
            · rw [List.getElem?_append_left (by omega), List.getElem?_take, if_pos hin] at hec
              obtain ⟨v, hv, h1', hr'⟩ := hor i e j c hin hec hcc
              exact ⟨v, by rw [List.append_assoc, List.getElem?_append_left (List.getElem?_eq_some_iff.1 hv).1]; exact hv, h1', hr'⟩
            · rw [List.getElem?_append_right (by omega), hes] at hec
              obtain ⟨v, hv, hr'⟩ := hnr (i - n) e j c hec hcc
              have hlt := (List.getElem?_eq_some_iff.1 hv).1
              have hidx : i * tsz P k.e + j - olds.length = (i - n) * tsz P k.e + j := by
                rw [hol, Nat.sub_mul]; have := Nat.mul_le_mul_right (tsz P k.e) (show n ≤ i by omega); omega
              have hge : olds.length ≤ i * tsz P k.e + j := by rw [hol]; have := Nat.mul_le_mul_right (tsz P k.e) (show n ≤ i by omega); omega
              exact ⟨v, by rw [List.append_assoc, List.getElem?_append_right hge, hidx, List.getElem?_append_left hlt]; exact hv, hn1 v (List.mem_of_getElem? hv), hr'⟩
          have hkl : ∀ e ∈ k.es.take n ++ xs, e.cells.length = tsz P k.e := fun e he => by
            rcases List.mem_append.1 he with he | he
            · rcases hρ : ρ id with _ | b
              · rw [h.inv.nil id k hk hρ] at he; simp at he
              · obtain ⟨_, _, hl, _⟩ := h.inv.blk id k b hk hρ (by omega); rw [← hksz]; exact hl e (List.mem_of_mem_take he)
            · exact hxl e he
          have hklen : (k.es.take n ++ xs).length = n + xs.length := by rw [List.length_append, hes]
          have grow : ∀ old, ∀ cur : List Value, cur = olds ++ news ++ (Builtin.zeroCells z.cells (grownCap w (n + xs.length) old k.e - (n + xs.length))).toList →
              Wit C (upd (killE (isId id) E) d (.own id (tsz P k.e) 0 (n + xs.length))) (updS (killS (isId id) σ) id ((⟨k.e, tsz P k.e, k.es.take n ++ xs⟩ : Blk).kill (isId id)))
                (a.put (some d) (.slice (some ⟨w.heap.size, 0, none⟩) (n + xs.length) (grownCap w (n + xs.length) old k.e))) (w.drew.alloc (.cells cur.toArray k.e)) (updR (killR (isId id) ρ) id (some w.heap.size)) Im M := by
            rintro old cur rfl
            have hsize : (olds ++ news ++ (Builtin.zeroCells z.cells (grownCap w (n + xs.length) old k.e - (n + xs.length))).toList).toArray.size = grownCap w (n + xs.length) old k.e * tsz P k.e := by
              have := hcapg old
              simp only [List.size_toArray, List.length_append, hol, hnl, Array.length_toList, size_zeroCells, hzc, his, ← Nat.add_mul]
              congr 1; omega
            refine h.renew hG hd (w' := w.drew.alloc (.cells (olds ++ news ++ (Builtin.zeroCells z.cells (grownCap w (n + xs.length) old k.e - (n + xs.length))).toList).toArray k.e)) (k := ⟨k.e, tsz P k.e, k.es.take n ++ xs⟩) (g := w.heap.size) ⟨rfl, rfl, rfl, by simp, fun q hq _ => Below.heap_alloc w.drew _ q hq⟩ (.inr (Nat.le_refl _)) (fun q _ hq => Below.heap_alloc w.drew _ q hq) (cells_of (heap_alloc_new w.drew _)) hkl ?_ ?_ (hcapg old) (hcapm old) hsize (Nat.pos_iff_ne_zero.1 hz) (Nat.pos_iff_ne_zero.1 hz) hpn
            · rw [hsize, hklen]; exact Nat.mul_le_mul_right _ (hcapg old)
            · intro i e j c hec hcc
              obtain ⟨v, hv, h1', hr'⟩ := hfill _ i e j c hec hcc
              exact ⟨v, by simpa using hv, h1', hr'⟩
          rcases hs.own0_inv with ⟨hsy, rfl, hρ⟩ | ⟨b, cap', cur, e', hsy, hρ, hncap, hcap, hb, hsz, hnz⟩
          · -- a nil slice
            have ho0 : olds = [] := List.eq_nil_of_length_eq_zero (by simpa using hol)
            have hr := append_nil_mk w t t' ty k.e i z (tel_of he) hi hiz hu' (a.eval x) xs.length news hlen (by rw [his]; exact hfirst _ rfl) hm (by omega) (by rw [hib]; simp only [Nat.zero_add] at hby; omega)
            have hg := grow 0 _ rfl
            refine ⟨id, tsz P k.e, 0 + xs.length, _, _, _, updR (killR (isId id) ρ) id (some w.heap.size), hK, exec _ _ _ (by rw [hsy]; exact hr) rfl, ?_⟩
            simp only [ho0, Nat.zero_add, List.nil_append] at hg ⊢
            have ecells : (news ++ (Builtin.zeroCells z.cells (grownCap w xs.length 0 k.e - xs.length)).toList).toArray = news.toArray ++ Builtin.zeroCells z.cells (grownCap w xs.length 0 k.e - xs.length) := by
              apply Array.toList_inj.1; simp
            rw [ecells] at hg
            exact hg
          · obtain ⟨cur2, hb2, hl, hs2, hc2⟩ := h.inv.blk id k b hk hρ (by omega)
            obtain ⟨rfl, rfl⟩ := cells_uniq hb hb2
            have hoe := hoeq b cur hρ hb
            by_cases hroom : n + xs.length ≤ cap'
            · have hfit : n * i.size + news.length ≤ cur.size := by rw [his, hnl, hsz, ← Nat.add_mul]; exact Nat.mul_le_mul_right _ hroom
              have hr := append_room_mk w t t' ty k.e i (tel_of he) hi hu' b n cap' cur hb (a.eval x) xs.length news hlen (by rw [his]; exact hfirst _ rfl) hn1 hroom hfit
              rw [his, ← hoe] at hr
              refine ⟨id, tsz P k.e, n + xs.length, _, _, _, updR (killR (isId id) ρ) id (some b), hK, exec _ _ _ (by rw [hsy]; exact hr) rfl, ?_⟩
              have hsize : (olds ++ news ++ cur.toList.drop (n * tsz P k.e + news.length)).toArray.size = cap' * tsz P k.e := by
                rw [his] at hfit
                simp only [List.size_toArray, List.length_append, hol, List.length_drop, Array.length_toList]; omega
              refine h.renew hG hd (w' := w.setRow b (olds ++ news ++ cur.toList.drop (n * tsz P k.e + news.length)).toArray) (k := ⟨k.e, tsz P k.e, k.es.take n ++ xs⟩) (g := b) ⟨rfl, rfl, rfl, by simp [World.setRow], fun q _ hq => setRow_other w b q _ (fun e => hq ⟨id, by rw [e]; exact hρ⟩)⟩ (.inl ⟨id, by simp [isId], hρ⟩) (fun q hq _ => setRow_other w b q _ hq)
                (setRow_mk hb (by rw [hsize, hsz])) hkl ?_ ?_ hroom hcap hsize hnz (Nat.pos_iff_ne_zero.1 hz) hpn
              · rw [hsize, hklen]; exact Nat.mul_le_mul_right _ hroom
              · intro i e j c hec hcc
                obtain ⟨v, hv, h1', hr'⟩ := hfill _ i e j c hec hcc
                exact ⟨v, by simpa using hv, h1', hr'⟩
            · have holds : ∀ j v, olds[j]? = some v → w.cell? ((⟨b, 0, none⟩ : Addr).add j) = some v := fun j v hv => by
                rw [add_none, cells_at hb]
                rw [hoe, List.getElem?_take] at hv
                split at hv
                · simpa using hv
                · cases hv
              have hr := append_grow_mk w t t' ty k.e i z (tel_of he) hi hiz hu' ⟨b, 0, none⟩ n cap' olds (by rw [his]; exact hol) holds (a.eval x) xs.length news hlen (by rw [his]; exact hfirst _ rfl) (by omega) (by omega) (growslice_fits (by omega) (by rw [hib]; exact hby))
              have hg := grow cap' _ rfl
              refine ⟨id, tsz P k.e, n + xs.length, _, _, _, updR (killR (isId id) ρ) id (some w.heap.size), hK, exec _ _ _ (by rw [hsy]; exact hr) rfl, ?_⟩
              have ecells : (olds ++ news ++ (Builtin.zeroCells z.cells (grownCap w (n + xs.length) cap' k.e - (n + xs.length))).toList).toArray = olds.toArray ++ news.toArray ++ Builtin.zeroCells z.cells (grownCap w (n + xs.length) cap' k.e - (n + xs.length)) := by
                apply Array.toList_inj.1; simp
              rw [ecells] at hg
              exact hg
      · exact hv.elim
    · exact hv.elim
  · exact hv.elim
end Go.Vai
namespace Go.Vai
open Go.RowKit
variable {P : Program} {C : Fx} {w : World} {ρ : Nat → Option Nat} {Im : Nat → Prop} {M : Str} {E : Env} {σ : Store} {a : Act}
def setC (e : AV) (j : Nat) (v : AV) : AV := if j = 0 ∧ v.cells.length = e.cells.length then v else .agg (e.cells.take j ++ v.cells ++ e.cells.drop (j + v.cells.length))
theorem setC_cells {e : AV} {j : Nat} {v : AV} (h : j + v.cells.length ≤ e.cells.length) : (setC e j v).cells = e.cells.take j ++ v.cells ++ e.cells.drop (j + v.cells.length) := by
  unfold setC
  split
  · rename_i hc; obtain ⟨rfl, hl⟩ := hc; simp [hl]
  · rfl
def storeV (P : Program) (op : Op) (E : Env) (σ : Store) (K : Nat → Blk → Prop) : Prop :=
  match op with
  | .store t x y => match ev E x with
    | .ptr id sz i j => ∃ k, σ id = some k ∧ k.sz = sz ∧ ∃ e, k.es[i]? = some e ∧ (ev E y).ok = true ∧ (ev E y).cells.length = tsz P t ∧ 0 < tsz P t ∧ j + tsz P t ≤ sz ∧
        K id ⟨k.e, k.sz, k.es.set i (setC e j (ev E y))⟩
    | _ => False
  | _ => False
theorem Wit.turn (hG : GStable C.G) (h : Wit C E σ a w ρ Im M) {id b : Nat} {k k' : Blk} {cur cur' : Array Value} (hk : σ id = some k) (hρ : ρ id = some b) (hb : (∃ fr, w.heap[b]? = some (.cells cur k.e fr) ∧ Mk fr cur.size))
    (hsz : cur'.size = cur.size) (he : k'.e = k.e) (hl : ∀ e ∈ k'.es, e.cells.length = k'.sz) (hs : k'.es.length * k'.sz ≤ cur'.size)
    (hf : ∀ (i : Nat) (e : AV) (j : Nat) (c : AV), k'.es[i]? = some e → e.cells[j]? = some c → ∃ x, cur'[i * k'.sz + j]? = some x ∧ x.oneCell' = true ∧ Rep w ρ Im c x) (hkz : k'.sz ≠ 0) :
    Wit C E (updS σ id k') a (w.setRow b cur') ρ Im M := by
  have hoth : ∀ q, q ≠ b → (w.setRow b cur').heap[q]? = w.heap[q]? := fun q hq => setRow_other w b q cur' hq
  have hnew : ∃ fr, (w.setRow b cur').heap[b]? = some (.cells cur' k.e fr) ∧ Mk fr cur'.size := setRow_mk hb hsz
  have rep : ∀ {v : AV} {y : Value}, Rep w ρ Im v y → Rep (w.setRow b cur') ρ Im v y := fun {v y} hr =>
    Rep.mono (w := w) (w' := w.setRow b cur') (fun _ h => h) (fun q hI => hoth q (fun e => h.inv.apart id b hρ (e ▸ hI))) hr fun i _ => ⟨rfl, fun q hq cur2 e2 hc2 => by
      by_cases e : q = b
      · subst e; obtain ⟨rfl, rfl⟩ := cells_uniq hb hc2; exact ⟨cur', hnew, hsz⟩
      · exact ⟨cur2, by rw [hoth q e]; exact hc2, rfl⟩⟩
  refine h.step hG ⟨rfl, rfl, rfl, by simp [World.setRow], fun q _ hq => hoth q (fun e => hq ⟨id, by rw [e]; exact hρ⟩)⟩ ?_ (fun t y hy => rep (h.env t y hy)) rfl rfl rfl (fun i _ hi => .inl hi) (fun _ hi => .inl hi) h.pin (fun _ h => h)
  refine ⟨fun i k2 hk2 hr => ?_, fun i k2 q hk2 hr hz => ?_, fun i k2 q hk2 hr hz => ?_, h.inv.inj, fun i q hr hs' => ?_, h.inv.apart, fun q hq => ?_⟩
  · by_cases e : i = id
    · subst e; rw [hρ] at hr; cases hr
    · rw [updS_ne _ _ _ _ e] at hk2; exact h.inv.nil i k2 hk2 hr
  · by_cases e : i = id
    · subst e; simp at hk2; subst hk2; exact absurd hz hkz
    · rw [updS_ne _ _ _ _ e] at hk2
      obtain ⟨ents, clk, hb2, hl2, hc2⟩ := h.inv.map i k2 q hk2 hr hz
      have hqb : q ≠ b := fun e' => e (h.inv.inj i id b (e' ▸ hr) hρ)
      exact ⟨ents, clk, by rw [hoth q hqb]; exact hb2, hl2, fun i m hm => by obtain ⟨v, hv, hr⟩ := hc2 i m hm; exact ⟨v, hv, rep hr⟩⟩
  · by_cases e : i = id
    · subst e; simp at hk2; subst hk2; rw [hρ] at hr; cases hr
      exact ⟨cur', by rw [he]; exact hnew, hl, hs, fun i e j c hec hcc => by obtain ⟨x, hx, h1, hr⟩ := hf i e j c hec hcc; exact ⟨x, hx, h1, rep hr⟩⟩
    · rw [updS_ne _ _ _ _ e] at hk2
      obtain ⟨cur2, hb2, hl2, hs2, hc2⟩ := h.inv.blk i k2 q hk2 hr hz
      have hqb : q ≠ b := fun e' => e (h.inv.inj i id b (e' ▸ hr) hρ)
      exact ⟨cur2, by rw [hoth q hqb]; exact hb2, hl2, hs2, fun i e j c hec hcc => by obtain ⟨x, hx, h1, hr⟩ := hc2 i e j c hec hcc; exact ⟨x, hx, h1, rep hr⟩⟩
  · by_cases e : i = id
    · subst e; simp at hs'
    · rw [updS_ne _ _ _ _ e] at hs'; exact h.inv.live i q hr hs'
  · have := h.inv.low q hq; simpa [World.setRow] using this
theorem store_sound (hG : GStable C.G) (h : Wit C E σ a w ρ Im M) {o : Oper} (hlow : Op.low C.N o.op = true)
    {K : Nat → Blk → Prop} (hv : storeV P o.op E σ K) :
    ∃ id k w', K id k ∧ (execOp a.eval o).run P w = .ok .skip w' ∧ Wit C E (updS σ id k) a w' ρ Im M := by
  have rep : ∀ x, x ∈ o.op.operands → Rep w ρ Im (ev E x) (a.eval x) := fun x hx => ev_rep h.env (by rw [h.size]; exact low_of hlow hx)
  obtain ⟨dst, op, ty, pos, after, guard⟩ := o
  simp only at hlow hv rep
  unfold storeV at hv
  split at hv
  · rename_i t x y
    have hx := rep x (by simp [Op.operands])
    have hy := rep y (by simp [Op.operands])
    split at hv
    · rename_i id sz i j hex
      rw [hex] at hx
      obtain ⟨k, hk, rfl, e, he, hok, hyl, hz, hjle, hK⟩ := hv
      obtain ⟨ys, hyc, hyrep, hy1⟩ := cells_rep hok hy
      have hρb : ∃ b, a.eval x = .pointer (some ⟨b, i * k.sz + j, none⟩) ∧ ρ id = some b ∧ k.sz ≠ 0 := by
        generalize a.eval x = ax at hx
        cases hx with
        | im _ _ h => cases h
        | ptr _ _ _ _ b hρ hz => exact ⟨b, rfl, hρ, hz⟩
      obtain ⟨b, hax, hρ, hkz⟩ := hρb
      obtain ⟨cur, hb, hl, hs, hc⟩ := h.inv.blk id k b hk hρ hkz
      have hil : i < k.es.length := (List.getElem?_eq_some_iff.1 he).1
      have hel : e.cells.length = k.sz := hl e (List.mem_of_getElem? he)
      have hysl : ys.length = tsz P t := by rw [← hyrep.1]; exact hyl
      have hile : (i + 1) * k.sz ≤ k.es.length * k.sz := Nat.mul_le_mul_right _ hil
      rw [Nat.succ_mul] at hile
      have hrun := storeCells_mk P b (i * k.sz + j) k.e ys 0 cur w hb (by omega) hy1
      simp only [Nat.add_zero] at hrun
      have hcs := setC_cells (e := e) (j := j) (v := ev E y) (by rw [hyl, hel]; exact hjle)
      refine ⟨id, _, w.setRow b (cur.toList.take (i * k.sz + j) ++ ys ++ cur.toList.drop (i * k.sz + j + ys.length)).toArray, hK, ?_, ?_⟩
      · have hsz : (a.eval y).cells.size = tsz P t := by rw [hyc]; simpa using hysl
        have hlist : (a.eval y).cells.toList = ys := by rw [hyc]
        simp only [execOp, hax, Instr.storeAt, Instr.sureAddr, Sem.run_bind, Sem.run_pure, Result.andThen_ok, storeVar, run_sizeOf' hz w, hsz, ne_eq, not_true_eq_false, if_false, hlist, hrun]
      · refine h.turn hG hk hρ hb ?_ rfl ?_ ?_ ?_ hkz
        · simp only [List.size_toArray, List.length_append, List.length_take, List.length_drop, Array.length_toList]; omega
        · intro e' he'
          rcases List.mem_or_eq_of_mem_set he' with h' | h'
          · exact hl e' h'
          · subst h'; rw [hcs]; simp only [List.length_append, List.length_take, List.length_drop, hyl, hel]; omega
        · simp only [List.length_set, List.size_toArray, List.length_append, List.length_take, List.length_drop, Array.length_toList]; omega
        · intro i' e' j' c he' hc'
          show ∃ x, (cur.toList.take (i * k.sz + j) ++ ys ++ cur.toList.drop (i * k.sz + j + ys.length)).toArray[i' * k.sz + j']? = some x ∧ x.oneCell' = true ∧ Rep w ρ Im c x
          simp only [List.getElem?_set] at he'
          split at he'
          · rename_i hii
            subst hii
            simp only [hil, if_true, Option.some.injEq] at he'
            subst he'
            have hj' : j' < k.sz := by
              have := (List.getElem?_eq_some_iff.1 hc').1
              rw [hcs] at this; simp only [List.length_append, List.length_take, List.length_drop, hyl, hel] at this; omega
            rw [hcs] at hc'
            by_cases h1 : j' < j
            · rw [List.append_assoc, List.getElem?_append_left (by simp only [List.length_take]; omega), List.getElem?_take, if_pos h1] at hc'
              obtain ⟨v, hv, hv1, hvr⟩ := hc i e j' c he hc'
              exact ⟨v, by rw [List.getElem?_toArray, List.append_assoc, List.getElem?_append_left (by simp only [List.length_take, Array.length_toList]; omega), List.getElem?_take, if_pos (by omega)]; simpa using hv, hv1, hvr⟩
            · by_cases h2 : j' < j + tsz P t
              · rw [List.getElem?_append_left (by simp only [List.length_append, List.length_take]; omega), List.getElem?_append_right (by simp only [List.length_take]; omega)] at hc'
                have hmin : j' - (e.cells.take j).length = j' - j := by rw [List.length_take, Nat.min_eq_left (by omega)]
                rw [hmin] at hc'
                have hlt : j' - j < ys.length := by omega
                refine ⟨ys[j' - j], ?_, hy1 _ (List.getElem_mem hlt), hyrep.2 _ c _ hc' (List.getElem?_eq_getElem hlt)⟩
                rw [List.getElem?_toArray, List.getElem?_append_left (by simp only [List.length_append, List.length_take, Array.length_toList]; omega), List.getElem?_append_right (by simp only [List.length_take, Array.length_toList]; omega)]
                have : i * k.sz + j' - (cur.toList.take (i * k.sz + j)).length = j' - j := by rw [List.length_take, Array.length_toList, Nat.min_eq_left (by omega)]; omega
                rw [this]; exact List.getElem?_eq_getElem hlt
              · rw [List.getElem?_append_right (by simp only [List.length_append, List.length_take]; omega), List.getElem?_drop] at hc'
                have hidx : j + (ev E y).cells.length + (j' - (e.cells.take j ++ (ev E y).cells).length) = j' := by
                  simp only [List.length_append, List.length_take, hyl, Nat.min_eq_left (show j ≤ e.cells.length by omega)]; omega
                rw [hidx] at hc'
                obtain ⟨v, hv, hv1, hvr⟩ := hc i e j' c he hc'
                refine ⟨v, ?_, hv1, hvr⟩
                rw [List.getElem?_toArray, List.getElem?_append_right (by simp only [List.length_append, List.length_take, Array.length_toList]; omega), List.getElem?_drop]
                have : i * k.sz + j + ys.length + (i * k.sz + j' - (cur.toList.take (i * k.sz + j) ++ ys).length) = i * k.sz + j' := by
                  simp only [List.length_append, List.length_take, Array.length_toList, Nat.min_eq_left (show i * k.sz + j ≤ cur.size by omega)]; omega
                rw [this]; simpa using hv
          · rename_i hii
            obtain ⟨v, hv, hv1, hvr⟩ := hc i' e' j' c he' hc'
            refine ⟨v, ?_, hv1, hvr⟩
            have hj' : j' < k.sz := by rw [← hl e' (List.mem_of_getElem? he')]; exact (List.getElem?_eq_some_iff.1 hc').1
            have hi'l := (List.getElem?_eq_some_iff.1 he').1
            have hb' : i' * k.sz + j' < cur.size := (Array.getElem?_eq_some_iff.1 hv).1
            rw [List.getElem?_toArray]
            rcases Nat.lt_or_ge i' i with hlt | hge
            · have : (i' + 1) * k.sz ≤ i * k.sz := Nat.mul_le_mul_right _ hlt
              rw [Nat.succ_mul] at this
              rw [List.append_assoc, List.getElem?_append_left (by simp only [List.length_take, Array.length_toList]; omega), List.getElem?_take, if_pos (by omega)]
              simpa using hv
            · have : (i + 1) * k.sz ≤ i' * k.sz := Nat.mul_le_mul_right _ (by omega)
              rw [Nat.succ_mul] at this
              rw [List.getElem?_append_right (by simp only [List.length_append, List.length_take, Array.length_toList]; omega), List.getElem?_drop]
              have : i * k.sz + j + ys.length + (i' * k.sz + j' - (cur.toList.take (i * k.sz + j) ++ ys).length) = i' * k.sz + j' := by
                simp only [List.length_append, List.length_take, Array.length_toList, Nat.min_eq_left (show i * k.sz + j ≤ cur.size by omega)]; omega
              rw [this]; simpa using hv
    · exact hv.elim
  · exact hv.elim
end Go.Vai

/- A heap-free account of the walk, first part -/
import Derived.WalkKit
import Derived.OrdersIn
import Derived.Laws.AppendOwn
import Derived.RangeFuncRecord
import Derived.Below
import Derived.Lib.AppendStr
import Derived.Laws.BytesArg
import Derived.Laws.IdiomStrings
import Derived.LaidEqlPtr
import Derived.Lib.Builder
import Derived.Laws.Slices
import Derived.Laws.Pointers
import Derived.Laws.Unary
import Derived.Laws.IdiomCopy
import Derived.Laws.StructEq
import Derived.Laws.MakeOwn
set_option linter.all false
abbrev L00 := @Bool.and_eq_true
abbrev L01 := @List.length_take
abbrev L02 := @List.mem_of_getElem?
abbrev L03 := @List.take_of_length_le
abbrev L04 := @List.take_length
abbrev L05 := @List.mem_map
abbrev L06 := @Bool.false_and
abbrev L07 := @List.getElem?_map
abbrev L08 := @List.getElem?_eq_getElem
abbrev L09 := @Nat.le_refl
abbrev L0a := @List.getElem?_eq_some_iff
abbrev L0b := @List.length_append
abbrev L0c := @List.length_map
abbrev L0d := @Bool.true_and
abbrev L0e := @List.length_cons
abbrev L0f := @List.all_eq_true
abbrev L0g := @List.length_drop
abbrev L0h := @Option.map_eq_some_iff
abbrev L0i := @Array.getElem?_eq_getElem
abbrev L0j := @List.getElem?_take
abbrev L0k := @List.getElem?_append_left
abbrev L0l := @List.map_cons
abbrev L0m := @Array.getElem?_eq_some_iff
abbrev L0n := @Nat.le_trans
abbrev L0o := @List.getElem?_append_right
abbrev L0p := @Nat.zero_add
abbrev L0q := @List.mem_cons
abbrev L0r := @List.length_nil
abbrev L0s := @List.mem_iff_getElem?
abbrev L0t := @List.mem_append
abbrev L0u := @List.mem_singleton
abbrev L0v := @Nat.le_of_ble_eq_true
abbrev L0w := @ByteArray.size_append
abbrev L0x := @Array.mem_toList_iff
abbrev L0y := @Nat.mul_le_mul_right
abbrev L0z := @Array.length_toList
abbrev L0A := @List.contains_iff_mem
abbrev L0B := @List.take_add_one
abbrev L0C := @Bool.false_eq_true
abbrev L0D := @List.getElem?_drop
abbrev L0E := @List.append_assoc
abbrev L0F := @List.append_nil
abbrev L0G := @List.map_nil
abbrev L0H := @List.drop_length
abbrev L0I := @Option.map_some
abbrev L0J := @List.mem_of_mem_take
abbrev L0K := @Nat.add_assoc
abbrev L0L := @List.cons_append
abbrev L0M := @Array.getD_eq_getD_getElem?
abbrev L0N := @Nat.min_eq_left
abbrev L0O := @Bool.or_eq_true
abbrev L0P := @Array.getElem?_toList
abbrev L0Q := @Nat.lt_of_lt_of_le
abbrev L0R := @Nat.add_zero
abbrev L0S := @List.map_congr_left
abbrev L0T := @List.eq_nil_of_length_eq_zero
abbrev L0U := @Nat.mul_one
abbrev L0V := @List.size_toArray
abbrev L0W := @Bool.not_eq_true'
abbrev L0X := @List.getD_eq_getElem?_getD
abbrev L0Y := @Bool.eq_iff_iff
abbrev L0Z := @Int.tmod_eq_emod_of_nonneg
abbrev L10 := @Nat.pow_succ
abbrev L11 := @Nat.sub_zero
abbrev L12 := @Array.toList_inj
abbrev L13 := @Nat.succ_mul
abbrev L14 := @Bool.or_false
abbrev L15 := @Nat.add_sub_cancel
abbrev L16 := @List.mem_of_mem_drop
abbrev L17 := @Nat.zero_le
abbrev L18 := @List.length_singleton
abbrev L19 := @List.map_map
abbrev L1a := @List.mem_range
abbrev L1b := @List.getElem?_eq_none
abbrev L1c := @List.map_append
abbrev L1d := @List.range_succ
abbrev L1e := @Int.toNat_natCast
abbrev L1f := @Int.mul_nonneg
abbrev L1g := @List.getElem?_toArray
abbrev L1h := @List.length_pos_iff
abbrev L1i := @Int.tdiv_eq_ediv_of_nonneg
abbrev L1j := @Int.ediv_nonneg
abbrev L1k := @List.length_reverse
abbrev L1l := @List.mem_iff_getElem
abbrev L1m := @List.foldl_cons
abbrev L1n := @Array.getElem?_setIfInBounds_ne
abbrev L1o := @Bool.and_assoc
abbrev L1p := @Nat.mod_lt
abbrev L1q := @List.sizeOf_lt_of_mem
abbrev L1r := @Nat.add_mul
abbrev L1s := @Nat.pos_iff_ne_zero
abbrev L1t := @Nat.lt_or_ge
abbrev L1u := @List.length_filter_le
abbrev L1v := @Nat.sub_self
abbrev L1w := @List.getElem_mem
abbrev L1x := @List.pairwise_cons
abbrev L1y := @Bool.or_eq_false_iff
abbrev L1z := @List.mem_cons_of_mem
abbrev L1A := @Nat.lt_irrefl
abbrev L1B := @List.flatMap_cons
abbrev L1C := @Array.getElem?_modify
abbrev L1D := @Int.fdiv_eq_ediv_of_nonneg
abbrev L1E := @Bool.and_false
abbrev L1F := @Bool.false_or
abbrev L1G := @List.take_zero
abbrev L1H := @List.range_eq_range'
abbrev L1I := @Array.mem_of_getElem?
abbrev L1J := @List.any_eq_true
abbrev L1K := @List.nodup_cons
abbrev L1L := @List.map_take
abbrev L1M := @Int.le_refl
abbrev L1N := @List.reverse_cons
abbrev L1O := @List.take_append_of_le_length
abbrev L1P := @List.drop_drop
abbrev L1Q := @Array.toArray_toList
abbrev L1R := @List.range'_succ
abbrev L1S := @Nat.div_lt_iff_lt_mul
abbrev L1T := @List.nil_append
abbrev L1U := @List.mem_filterMap
abbrev L1V := @Array.getElem?_replicate
abbrev L1W := @List.all_cons
abbrev L1X := @List.getElem?_eq_none_iff
abbrev L1Y := @Nat.one_ne_zero
abbrev L1Z := @Int.mul_add
abbrev L20 := @Int.mul_le_mul_of_nonneg_right
abbrev L21 := @Nat.two_pow_pos
abbrev L22 := @Int.toNat_of_nonneg
abbrev L23 := @List.drop_eq_getElem_cons
abbrev L24 := @List.length_set
abbrev L25 := @List.nodup_append
abbrev L26 := @List.filter_eq_self
abbrev L27 := @Nat.lt_succ_self
abbrev L28 := @List.append_of_mem
abbrev L29 := @List.map_eq_nil_iff
abbrev L2a := @List.getElem?_of_mem
abbrev L2b := @List.ext_getElem?
abbrev L2c := @List.set_eq_take_append_cons_drop
abbrev L2d := @Int.ediv_le_self
abbrev L2e := @List.find?_cons
abbrev L2f := @Option.map_none
abbrev L2g := @List.foldl_nil
abbrev L2h := @List.replicate_succ'
abbrev L2i := @List.mem_filter
abbrev L2j := @Nat.pow_le_pow_right
abbrev L2k := @List.drop_of_length_le
abbrev L2l := @Nat.div_div_eq_div_mul
abbrev L2m := @Array.getElem?_setIfInBounds_self_of_lt
abbrev L2n := @Option.isSome_iff_exists
abbrev L2o := @List.length_replicate
abbrev L2p := @List.mem_or_eq_of_mem_set
abbrev L2q := @Array.size_replicate
abbrev L2r := @List.flatMap_append
abbrev L2s := @List.set_append_right
abbrev L2t := @List.replicate_succ
abbrev L2u := @ByteArray.data_append
abbrev L2v := @ByteArray.append_assoc
abbrev L2w := @Int.ediv_le_of_le_mul
abbrev L2x := @Int.mul_le_mul_of_nonneg_left
abbrev L2y := @List.reverse_reverse
namespace Go.Vai
inductive AV where
 | any
 | v (x : Value)
 | agg (cs : List AV)
 | sl (sz : Nat) (es : List AV)
 | pt (e : AV) (j : Nat)
 | own (id sz i n : Nat)
 | ptr (id sz i j : Nat)
 | new (e sz : Nat) (es : List AV)
 | nptr (e sz : Nat) (es : List AV)
 | yld (l : Nat)
 | tup (vs : List AV)
 | clo (f : Nat) (caps : List AV)
 | mp (es : List AV)
 | mref (id : Nat)
 | cut (sz : Nat) (es : List AV)
def bI (s : ByteArray) : List Int := s.data.toList.map λ c => (c.toNat : Int)
abbrev Y (n : Int) : AV := .v (.int .u8 n)
def mkF (g : Nat) : List Value -> Value
 | .tuple _ :: ys => .func (.func g) ys.toArray #[]
 | ys => .func (.func g) #[] ys.toArray
theorem Ji9 (g : Nat) (ys : List Value) : ∃ a b, mkF g ys = .func (.func g) a b := by unfold mkF; split <;> exact ⟨_, _, rfl⟩
def JaM : List AV -> Bool
 | .any :: _ => false
 | .tup _ :: _ => false
 | .v x :: _ => x.oneCell'
 | _ => true
def AV.cells : AV -> List AV
 | .agg b => b
 | a => [a]
def AV.atom : AV -> Bool
 | .v x => x.oneCell'
 | .sl .. | .pt .. | .own .. | .ptr .. | .clo .. | .mp .. | .mref .. => true
 | _ => false
@[simp] theorem AV.cells_agg (cs : List AV) : (AV.agg cs).cells = cs := rfl
@[simp] theorem AV.cells_v (x : Value) : (AV.v x).cells = [.v x] := rfl
@[simp] theorem AV.cells_sl (s : Nat) (es : List AV) : (AV.sl s es).cells = [.sl s es] := rfl
@[simp] theorem AV.cells_own (a b c d : Nat) : (AV.own a b c d).cells = [.own a b c d] := rfl
@[simp] theorem AV.cells_ptr (a b c d : Nat) : (AV.ptr a b c d).cells = [.ptr a b c d] := rfl
@[simp] theorem AV.cells_pt (e : AV) (j : Nat) : (AV.pt e j).cells = [.pt e j] := rfl
@[simp] theorem AV.cells_clo (f : Nat) (cs : List AV) : (AV.clo f cs).cells = [.clo f cs] := rfl
@[simp] theorem AV.cells_any : AV.any.cells = [.any] := rfl
@[simp] theorem AV.cells_mp (es : List AV) : (AV.mp es).cells = [.mp es] := rfl
@[simp] theorem AV.cells_cut (s : Nat) (es : List AV) : (AV.cut s es).cells = [.cut s es] := rfl
@[simp] theorem AV.cells_mref (id : Nat) : (AV.mref id).cells = [.mref id] := rfl
def Bn (b : Array MapEntry) (c : Nat) : Prop := (b.toList.map (·.born)).Nodup /\ ∀ e ∈ b.toList, e.born < c
inductive IRep (w : World) (Im : Nat -> Prop) : AV -> Value -> Prop
 | any (y : Value) : IRep w Im .any y
 | v (x : Value) : IRep w Im (.v x) x
 | agg (cs : List AV) (ys : List Value) (hl : cs.length = ys.length) (h1 : ∀ y ∈ ys, y.oneCell' = true)
  (h : ∀ (j : Nat) (c : AV) (y : Value), cs[j]? = some c -> ys[j]? = some y -> IRep w Im c y) : IRep w Im (.agg cs) (.agg ys.toArray)
 | slnil (sz : Nat) (a : Option Addr) (cap : Nat) : IRep w Im (.sl sz []) (.slice a 0 cap)
 | sl (sz : Nat) (es : List AV) (b o cap : Nat) (f : Nat -> Nat -> Value) (hIm : Im b) (hcap : es.length <= cap) (hsz : ∀ e ∈ es, e.cells.length = sz)
  (hc : ∀ i j, i < es.length -> j < sz -> w.cell? ⟨b, o + i * sz + j, none⟩ = some (f i j) /\ (f i j).oneCell' = true)
  (h : ∀ (i : Nat) (e : AV) (j : Nat) (c : AV), es[i]? = some e -> e.cells[j]? = some c -> IRep w Im c (f i j)) :
  IRep w Im (.sl sz es) (.slice (some ⟨b, o, none⟩) es.length cap)
 | pt (e : AV) (j b o : Nat) (f : Nat -> Value) (hIm : Im b)
  (hc : ∀ i, i < e.cells.length -> w.cell? ⟨b, o + i, none⟩ = some (f i) /\ (f i).oneCell' = true)
  (h : ∀ (i : Nat) (c : AV), e.cells[i]? = some c -> IRep w Im c (f i)) : IRep w Im (.pt e j) (.pointer (some ⟨b, o + j, none⟩))
 | tup (vs : List AV) (ys : List Value) (hl : vs.length = ys.length)
  (h : ∀ (j : Nat) (c : AV) (y : Value), vs[j]? = some c -> ys[j]? = some y -> IRep w Im c y) : IRep w Im (.tup vs) (.tuple ys.toArray)
 | clo (g : Nat) (caps : List AV) (ys : List Value) (hl : caps.length = ys.length)
  (h : ∀ (j : Nat) (c : AV) (y : Value), caps[j]? = some c -> ys[j]? = some y -> IRep w Im c y) : IRep w Im (.clo g caps) (mkF g ys)
 | yld (l : Nat) : IRep w Im (.yld l) (.func (.yield l) #[] #[])
 | mpnil : IRep w Im (.mp []) (.map none)
 | mp (es : List AV) (b : Nat) (ents : Array MapEntry) (clk : Nat) (f : Nat -> AV) (hIm : Im b) (hb : w.heap[b]? = some (.map ents clk)) (hl : es.length = ents.size /\ Bn ents clk)
  (hes : ∀ (i : Nat) (m : MapEntry), ents[i]? = some m -> es[i]? = some (.tup [.v m.key, f i]))
  (h : ∀ (i : Nat) (m : MapEntry), ents[i]? = some m -> IRep w Im (f i) m.val) : IRep w Im (.mp es) (.map (some b))
 | cut (sz : Nat) (es : List AV) (a : Option Addr) (h : IRep w Im (.sl sz es) (.slice a es.length es.length)) : IRep w Im (.cut sz es) (.slice a es.length es.length)
theorem IRep.mono {w w' : World} {Im s : Nat -> Prop} (B : ∀ b, Im b -> s b) (H : ∀ b, Im b -> w'.heap[b]? = w.heap[b]?)
 {a : AV} {y : Value} (h : IRep w Im a y) : IRep w' s a y := by
 have I : ∀ b o, Im b -> w'.cell? ⟨b, o, none⟩ = w.cell? ⟨b, o, none⟩ := λ b o h => World.cell?_of_block (H b h)
 induction h with
 | any y => exact .any y
 | v x => exact .v x
 | agg J ys q K _ d => exact .agg J ys q K d
 | slnil sz a k => exact .slnil sz a k
 | sl sz es b o k f c z F p _ d => exact .sl sz es b o k f (B b c) z F (λ i j E L => by rw [I _ _ c]; exact p i j E L) d
 | pt e j b o f c p _ d => exact .pt e j b o f (B b c) (λ i E => by rw [I _ _ c]; exact p i E) d
 | tup vs ys q _ d => exact .tup vs ys q d
 | clo g t ys q _ d => exact .clo g t ys q d
 | yld l => exact .yld l
 | mpnil => exact .mpnil
 | mp es b u A f c C q D _ d => exact .mp es b u A f (B b c) (by rw [H b c]; exact C) q D d
 | cut sz es a _ d => exact .cut sz es a d
structure Blk where
 e : TypeId
 sz : Nat
 es : List AV
abbrev Jac := Nat -> Option Blk
abbrev Env := Nat -> AV
def Mk (b : Nat × Nat) (n : Nat) : Prop := b = (0, 0) \/ b = (n, n + 1)
theorem JiK {w : World} {b n : Nat} {cur : Array Value} {e : TypeId} (h : ∃ c, w.heap[b]? = some (.cells cur e c) /\ Mk c n) : b < w.heap.size := by
 obtain ⟨_, h, _⟩ := h; exact (L0m.1 h).1
theorem Jbs {w : World} {b n : Nat} {cur : Array Value} {e : TypeId} (h : ∃ c, w.heap[b]? = some (.cells cur e c) /\ Mk c n) (o : Nat) : w.cell? ⟨b, o, none⟩ = cur[o]? := by
 obtain ⟨_, h, _⟩ := h; simp [World.cell?, h]
theorem JeT {w : World} {b : Nat} {cur : Array Value} {e : TypeId} (h : w.heap[b]? = some (.cells cur e (0, 0))) : ∃ c, w.heap[b]? = some (.cells cur e c) /\ Mk c cur.size := ⟨_, h, .inl rfl⟩
theorem JcX {w : World} {b n m : Nat} {cur cur' : Array Value} {e f : TypeId} (h : ∃ c, w.heap[b]? = some (.cells cur e c) /\ Mk c n) (d : ∃ c, w.heap[b]? = some (.cells cur' f c) /\ Mk c m) : cur = cur' /\ e = f := by
 obtain ⟨_, h, _⟩ := h; obtain ⟨_, d, _⟩ := d; rw [h] at d; cases d; exact ⟨rfl, rfl⟩
inductive Rep (w : World) (ρ : Nat -> Option Nat) (Im : Nat -> Prop) : AV -> Value -> Prop
 | im (a : AV) (y : Value) (h : IRep w Im a y) : Rep w ρ Im a y
 | agg (cs : List AV) (ys : List Value) (hl : cs.length = ys.length) (h1 : ∀ y ∈ ys, y.oneCell' = true)
  (h : ∀ (j : Nat) (c : AV) (y : Value), cs[j]? = some c -> ys[j]? = some y -> Rep w ρ Im c y) : Rep w ρ Im (.agg cs) (.agg ys.toArray)
 | tup (vs : List AV) (ys : List Value) (hl : vs.length = ys.length)
  (h : ∀ (j : Nat) (c : AV) (y : Value), vs[j]? = some c -> ys[j]? = some y -> Rep w ρ Im c y) : Rep w ρ Im (.tup vs) (.tuple ys.toArray)
 | clo (g : Nat) (caps : List AV) (ys : List Value) (hl : caps.length = ys.length)
  (h : ∀ (j : Nat) (c : AV) (y : Value), caps[j]? = some c -> ys[j]? = some y -> Rep w ρ Im c y) : Rep w ρ Im (.clo g caps) (mkF g ys)
 | ownNil (id sz : Nat) (hρ : ρ id = none) : Rep w ρ Im (.own id sz 0 0) (.slice none 0 0)
 | own (id sz n b cap : Nat) (cur : Array Value) (e : TypeId) (hρ : ρ id = some b) (hn : n <= cap) (hcap : cap <= maxLen) (hb : (∃ fr, w.heap[b]? = some (.cells cur e fr) /\ Mk fr cur.size)) (hsz : cur.size = cap * sz) (hz : sz ≠ 0) :
  Rep w ρ Im (.own id sz 0 n) (.slice (some ⟨b, 0, none⟩) n cap)
 | ownAt (id sz i n b cap : Nat) (a : Option Addr) (hi : 0 < i) (hρ : ρ id = some b) (hn : n <= cap) (ha : n ≠ 0 -> a = some ⟨b, i * sz, none⟩) (hz : sz ≠ 0) : Rep w ρ Im (.own id sz i n) (.slice a n cap)
 | ptr (id sz i j b : Nat) (hρ : ρ id = some b) (hz : sz ≠ 0) : Rep w ρ Im (.ptr id sz i j) (.pointer (some ⟨b, i * sz + j, none⟩))
 | mref (id b : Nat) (hρ : ρ id = some b) : Rep w ρ Im (.mref id) (.map (some b))
inductive Names : AV -> Nat -> Prop
 | own (id sz i n : Nat) : Names (.own id sz i n) id
 | ptr (id sz i j : Nat) : Names (.ptr id sz i j) id
 | mref (id : Nat) : Names (.mref id) id
 | agg (cs : List AV) (c : AV) (id : Nat) (hc : c ∈ cs) (h : Names c id) : Names (.agg cs) id
 | tup (cs : List AV) (c : AV) (id : Nat) (hc : c ∈ cs) (h : Names c id) : Names (.tup cs) id
 | clo (g : Nat) (cs : List AV) (c : AV) (id : Nat) (hc : c ∈ cs) (h : Names c id) : Names (.clo g cs) id
def Juk (w w' : World) (b : Nat) : Prop := ∀ d e, (∃ f, w.heap[b]? = some (.cells d e f) /\ Mk f d.size) -> ∃ c, (∃ f, w'.heap[b]? = some (.cells c e f) /\ Mk f c.size) /\ c.size = d.size
theorem Rep.mono {w w' : World} {ρ C : Nat -> Option Nat} {Im q : Nat -> Prop} (K : ∀ b, Im b -> q b) (O : ∀ b, Im b -> w'.heap[b]? = w.heap[b]?)
 {a : AV} {y : Value} (h : Rep w ρ Im a y) (d : ∀ id, Names a id -> C id = ρ id /\ ∀ b, ρ id = some b -> Juk w w' b) : Rep w' C q a y := by
 induction h with
 | im a y h => exact .im a y (h.mono K O)
 | agg k ys u E _ B => exact .agg k ys u E λ j c y l z => B j c y l z λ id f => d id (.agg k c id (L02 l) f)
 | tup k ys u _ B => exact .tup k ys u λ j c y l z => B j c y l z λ id f => d id (.tup k c id (L02 l) f)
 | clo g k ys u _ B => exact .clo g k ys u λ j c y l z => B j c y l z λ id f => d id (.clo g k c id (L02 l) f)
 | ownNil id sz h => exact .ownNil id sz (by rw [(d id (.own ..)).1]; exact h)
 | own id sz n b p D e o f t M F A =>
  obtain ⟨E, H⟩ := d id (.own ..)
  obtain ⟨s, I, J⟩ := H b o D e M
  exact .own id sz n b p s e (by rw [E]; exact o) f t I (by rw [J]; exact F) A
 | ownAt id sz i n b p a P o f L A => exact .ownAt id sz i n b p a P (by rw [(d id (.own ..)).1]; exact o) f L A
 | ptr id sz i j b o A => exact .ptr id sz i j b (by rw [(d id (.ptr ..)).1]; exact o) A
 | mref id b o => exact .mref id b (by rw [(d id (.mref ..)).1]; exact o)
def JrY (w : World) (ρ : Nat -> Option Nat) (Im : Nat -> Prop) (es : List AV) (b : Nat) : Prop :=
 ∃ c d, w.heap[b]? = some (.map c d) /\ (es.length = c.size /\ Bn c d) /\
  ∀ (i : Nat) (m : MapEntry), c[i]? = some m -> ∃ v, es[i]? = some (.tup [.v m.key, v]) /\ Rep w ρ Im v m.val
structure Inv (w : World) (ρ : Nat -> Option Nat) (Im : Nat -> Prop) (σ : Jac) : Prop where
 nil : ∀ id k, σ id = some k -> ρ id = none -> k.es = []
 map : ∀ id k b, σ id = some k -> ρ id = some b -> k.sz = 0 -> JrY w ρ Im k.es b
 blk : ∀ id k b, σ id = some k -> ρ id = some b -> k.sz ≠ 0 -> ∃ cur, (∃ fr, w.heap[b]? = some (.cells cur k.e fr) /\ Mk fr cur.size) /\ (∀ e ∈ k.es, e.cells.length = k.sz) /\ k.es.length * k.sz <= cur.size /\
  (∀ (i : Nat) (e : AV) (j : Nat) (c : AV), k.es[i]? = some e -> e.cells[j]? = some c -> ∃ x, cur[i * k.sz + j]? = some x /\ x.oneCell' = true /\ Rep w ρ Im c x)
 inj : ∀ id id' b, ρ id = some b -> ρ id' = some b -> id = id'
 live : ∀ id b, ρ id = some b -> σ id ≠ none
 apart : ∀ id b, ρ id = some b -> ¬ Im b
 low : ∀ b, Im b -> b < w.heap.size
theorem Inv.lt {w : World} {ρ : Nat -> Option Nat} {Im : Nat -> Prop} {σ : Jac} (h : Inv w ρ Im σ) {id b : Nat} (f : ρ id = some b) : b < w.heap.size := by
 cases hs : σ id with
 | none => exact absurd hs (h.live id b f)
 | some k =>
  by_cases h0 : k.sz = 0
  . obtain ⟨c, i, d, _⟩ := h.map id k b hs f h0
    exact (L0m.1 d).1
  . obtain ⟨c, d, _⟩ := h.blk id k b hs f h0
    exact JiK d
structure Ext (w : World) (X : Nat -> Prop) (w' : World) : Prop where
 os : w'.os = w.os
 tape : w'.tape = w.tape
 output : w'.output = w.output
 size : w.heap.size <= w'.heap.size
 block : ∀ k, k < w.heap.size -> ¬ X k -> w'.heap[k]? = w.heap[k]?
theorem Ext.refl (w : World) (X : Nat -> Prop) : Ext w X w := ⟨rfl, rfl, rfl, L09 _, λ _ _ _ => rfl⟩
theorem Ext.trans {w i l : World} {X Y : Nat -> Prop} (h : Ext w X i) (k : Ext i Y l) (o : ∀ b, Y b -> X b \/ w.heap.size <= b) : Ext w X l :=
 ⟨k.os.trans h.os, k.tape.trans h.tape, k.output.trans h.output, L0n h.size k.size,
  λ b d f => (k.block b (L0Q d h.size) (λ p => by rcases o b p with c | c; exact f c; omega)).trans (h.block b d f)⟩
theorem Ext.mono {w w' : World} {X Y : Nat -> Prop} (h : Ext w X w') (c : ∀ b, b < w.heap.size -> X b -> Y b) : Ext w Y w' :=
 ⟨h.os, h.tape, h.output, h.size, λ b d f => h.block b d λ i => f (c b d i)⟩
theorem Ext.cell {w w' : World} {X : Nat -> Prop} (h : Ext w X w') {b o : Nat} (c : b < w.heap.size) (d : ¬ X b) : w'.cell? ⟨b, o, none⟩ = w.cell? ⟨b, o, none⟩ :=
 World.cell?_of_block (h.block b c d)
theorem Ext.below {w w' : World} (h : Ext w (λ _ => False) w') : RowKit.Below w.heap.size w w' := ⟨h.os, h.tape, h.output, h.size, λ k b => h.block k b (λ h => h)⟩
def JaK (w : World) (ρ : Nat -> Option Nat) (Im : Nat -> Prop) (E : Env) (tm : Array Value) : Prop := ∀ (t : Nat) (y : Value), tm[t]? = some y -> Rep w ρ Im (E t) y
theorem Ext.alloc (w : World) (X : Nat -> Prop) (o : Obj) : Ext w X (w.alloc o) := ⟨rfl, rfl, rfl, by simp, λ k b _ => RowKit.Below.heap_alloc w o k b⟩
def upd (E : Env) (d : Nat) (a : AV) : Env := λ t => if t = d then a else E t
@[simp] theorem Jnn (E : Env) (d : Nat) (a : AV) : upd E d a d = a := by simp [upd]
theorem upd_ne (E : Env) (d : Nat) (a : AV) (t : Nat) (h : t ≠ d) : upd E d a t = E t := by simp [upd, h]
theorem Jtz (E : Env) (d b : Nat) (a c : AV) (h : d ≠ b) : upd (upd E d a) b c = upd (upd E b c) d a := by
 funext t; simp only [upd]; split <;> split <;> simp_all
theorem Jci (E : Env) (d : Nat) (a : AV) (h : E d = a) : upd E d a = E := by
 funext t; simp only [upd]; split <;> simp_all
def updS (σ : Jac) (d : Nat) (k : Blk) : Jac := λ t => if t = d then some k else σ t
@[simp] theorem Jk3 (σ : Jac) (d : Nat) (k : Blk) : updS σ d k d = some k := by simp [updS]
theorem JaI (σ : Jac) (d : Nat) (k : Blk) (t : Nat) (h : t ≠ d) : updS σ d k t = σ t := by simp [updS, h]
mutual
def AV.namesB (p : Nat -> Bool) : AV -> Bool
 | .own a _ _ _ => p a
 | .ptr a _ _ _ => p a
 | .mref a => p a
 | .agg b => AV.namesL p b
 | .tup b => AV.namesL p b
 | .clo _ b => AV.namesL p b
 | _ => false
def AV.namesL (p : Nat -> Bool) : List AV -> Bool
 | [] => false
 | c :: b => AV.namesB p c || AV.namesL p b
end
mutual
def AV.dk (p : Nat -> Bool) : AV -> AV
 | .own a s i n => if p a then .any else .own a s i n
 | .ptr a s i j => if p a then .any else .ptr a s i j
 | .mref a => if p a then .any else .mref a
 | .agg b => .agg (AV.dkL p b)
 | .tup b => .tup (AV.dkL p b)
 | .clo g b => .clo g (AV.dkL p b)
 | a => a
def AV.dkL (p : Nat -> Bool) : List AV -> List AV
 | [] => []
 | c :: b => AV.dk p c :: AV.dkL p b
end
theorem AV.namesL_iff (p : Nat -> Bool) (cs : List AV) : AV.namesL p cs = true ↔ ∃ c ∈ cs, AV.namesB p c = true := by
 induction cs with
 | nil => simp [AV.namesL]
 | cons c cs b => simp [AV.namesL, b]
theorem AV.namesB_of (p : Nat -> Bool) {a : AV} {id : Nat} (h : Names a id) (b : p id = true) : AV.namesB p a = true := by
 induction h with
 | own id sz i n => simpa [AV.namesB] using b
 | ptr id sz i j => simpa [AV.namesB] using b
 | mref id => simpa [AV.namesB] using b
 | agg d c id f _ k => simp only [AV.namesB]; exact (AV.namesL_iff p d).2 ⟨c, f, k b⟩
 | tup d c id f _ k => simp only [AV.namesB]; exact (AV.namesL_iff p d).2 ⟨c, f, k b⟩
 | clo g d c id f _ k => simp only [AV.namesB]; exact (AV.namesL_iff p d).2 ⟨c, f, k b⟩
theorem AV.dkL_eq (p : Nat -> Bool) (cs : List AV) : AV.dkL p cs = cs.map (AV.dk p) := by
 induction cs with
 | nil => rfl
 | cons c cs b => simp [AV.dkL, b]
def AV.kill (p : Nat -> Bool) (a : AV) : AV := if AV.namesB p a then AV.dk p a else a
def Blk.kill (p : Nat -> Bool) (k : Blk) : Blk := if AV.namesL p k.es then { k with es := AV.dkL p k.es } else k
def JaU (p : Nat -> Bool) (E : Env) : Env := λ t => (E t).kill p
def Jao (p : Nat -> Bool) (σ : Jac) : Jac := λ t => if p t then none else (σ t).map (Blk.kill p)
mutual
theorem AV.dk_names (p : Nat -> Bool) : ∀ (a : AV) (b : Nat), Names (AV.dk p a) b -> Names a b /\ p b = false
 | .own a s i n, b, h => by
  simp only [AV.dk] at h; split at h
  . cases h
  . cases h; exact ⟨.own .., by simp_all⟩
 | .ptr a s i n, b, h => by
  simp only [AV.dk] at h; split at h
  . cases h
  . cases h; exact ⟨.ptr .., by simp_all⟩
 | .mref a, b, h => by
  simp only [AV.dk] at h; split at h
  . cases h
  . cases h; exact ⟨.mref .., by simp_all⟩
 | .agg d, b, h => by
  simp only [AV.dk] at h
  cases h with
  | agg _ c _ t h => obtain ⟨f, k, o, q⟩ := AV.dkL_names p d b c t h; exact ⟨.agg d f b k o, q⟩
 | .tup d, b, h => by
  simp only [AV.dk] at h
  cases h with
  | tup _ c _ t h => obtain ⟨f, k, o, q⟩ := AV.dkL_names p d b c t h; exact ⟨.tup d f b k o, q⟩
 | .clo g d, b, h => by
  simp only [AV.dk] at h
  cases h with
  | clo _ _ c _ t h => obtain ⟨f, k, o, q⟩ := AV.dkL_names p d b c t h; exact ⟨.clo g d f b k o, q⟩
 | .any, b, h => by simp only [AV.dk] at h; cases h
 | .v x, b, h => by simp only [AV.dk] at h; cases h
 | .sl s es, b, h => by simp only [AV.dk] at h; cases h
 | .pt e j, b, h => by simp only [AV.dk] at h; cases h
 | .new e s es, b, h => by simp only [AV.dk] at h; cases h
 | .nptr e s es, b, h => by simp only [AV.dk] at h; cases h
 | .yld l, b, h => by simp only [AV.dk] at h; cases h
 | .mp es, b, h => by simp only [AV.dk] at h; cases h
 | .cut s es, b, h => by simp only [AV.dk] at h; cases h
theorem AV.dkL_names (p : Nat -> Bool) : ∀ (cs : List AV) (b : Nat) (c : AV), c ∈ AV.dkL p cs -> Names c b -> ∃ f ∈ cs, Names f b /\ p b = false
 | [], b, c, d, _ => by simp [AV.dkL] at d
 | x :: cs, b, c, d, h => by
  simp only [AV.dkL, L0q] at d
  rcases d with rfl | d
  . obtain ⟨i, l⟩ := AV.dk_names p x b h; exact ⟨x, by simp, i, l⟩
  . obtain ⟨f, k, i⟩ := AV.dkL_names p cs b c d h; exact ⟨f, by simp [k], i⟩
end
theorem AV.kill_names (p : Nat -> Bool) (a : AV) (b : Nat) (h : Names (a.kill p) b) : Names a b /\ p b = false := by
 unfold AV.kill at h
 split at h
 . exact AV.dk_names p a b h
 . rename_i c
   refine ⟨h, ?_⟩
   cases hp : p b with
   | false => rfl
   | true => exact absurd (AV.namesB_of p h hp) c
theorem Rep.map {w : World} {ρ : Nat -> Option Nat} {Im : Nat -> Prop} (F : AV -> AV) (D : ∀ cs, F (.agg cs) = .agg (cs.map F)) (E : ∀ cs, F (.tup cs) = .tup (cs.map F)) (H : ∀ g cs, F (.clo g cs) = .clo g (cs.map F))
 (h4 : ∀ a, (∀ cs, a ≠ .agg cs) -> (∀ cs, a ≠ .tup cs) -> (∀ g cs, a ≠ .clo g cs) -> F a = a \/ F a = .any) {a : AV} {y : Value} (h : Rep w ρ Im a y) : Rep w ρ Im (F a) y := by
 have i : ∀ {cs : List AV} {j : Nat} {c : AV}, (cs.map F)[j]? = some c -> ∃ b, cs[j]? = some b /\ F b = c := λ k => by simpa using k
 have q : ∀ {a : AV} {y : Value}, IRep w Im a y -> (∀ cs, a ≠ .agg cs) -> (∀ cs, a ≠ .tup cs) -> (∀ g cs, a ≠ .clo g cs) -> IRep w Im (F a) y := λ h A B C => by
  rcases h4 _ A B C with e | e <;> rw [e]
  . exact h
  . exact .any _
 have t : ∀ {a : AV} {y : Value}, Rep w ρ Im a y -> (∀ cs, a ≠ .agg cs) -> (∀ cs, a ≠ .tup cs) -> (∀ g cs, a ≠ .clo g cs) -> Rep w ρ Im (F a) y := λ h A B C => by
  rcases h4 _ A B C with e | e <;> rw [e]
  . exact h
  . exact .im _ _ (.any _)
 have s : ∀ {a : AV} {y : Value}, IRep w Im a y -> IRep w Im (F a) y := by
  intro a y h
  have z := h
  induction h with
  | agg cs ys o u l p =>
   rw [D]
   refine .agg _ ys (by simpa using o) u λ j c y k f => ?_
   obtain ⟨b, d, rfl⟩ := i k
   exact p j b y d f (l j b y d f)
  | tup cs ys o l p =>
   rw [E]
   refine .tup _ ys (by simpa using o) λ j c y k f => ?_
   obtain ⟨b, d, rfl⟩ := i k
   exact p j b y d f (l j b y d f)
  | clo g cs ys o l p =>
   rw [H]
   refine .clo g _ ys (by simpa using o) λ j c y k f => ?_
   obtain ⟨b, d, rfl⟩ := i k
   exact p j b y d f (l j b y d f)
  | _ => exact q z (λ _ e => by cases e) (λ _ e => by cases e) (λ _ _ e => by cases e)
 have z := h
 induction h with
 | im a y h => exact .im _ _ (s h)
 | agg cs ys o u l p =>
  rw [D]
  refine .agg _ ys (by simpa using o) u λ j c y k f => ?_
  obtain ⟨b, d, rfl⟩ := i k
  exact p j b y d f (l j b y d f)
 | tup cs ys o l p =>
  rw [E]
  refine .tup _ ys (by simpa using o) λ j c y k f => ?_
  obtain ⟨b, d, rfl⟩ := i k
  exact p j b y d f (l j b y d f)
 | clo g cs ys o l p =>
  rw [H]
  refine .clo g _ ys (by simpa using o) λ j c y k f => ?_
  obtain ⟨b, d, rfl⟩ := i k
  exact p j b y d f (l j b y d f)
 | _ => exact t z (λ _ e => by cases e) (λ _ e => by cases e) (λ _ _ e => by cases e)
theorem Rep.dk {w : World} {ρ : Nat -> Option Nat} {Im : Nat -> Prop} (p : Nat -> Bool) {a : AV} {y : Value} (h : Rep w ρ Im a y) : Rep w ρ Im (AV.dk p a) y :=
 h.map (AV.dk p) (λ b => by rw [AV.dk, AV.dkL_eq]) (λ b => by rw [AV.dk, AV.dkL_eq]) (λ g b => by rw [AV.dk, AV.dkL_eq]) λ a c d f => by
  cases a <;> first | exact absurd rfl (c _) | exact absurd rfl (d _) | exact absurd rfl (f _ _) | exact .inl rfl | (simp only [AV.dk]; split <;> simp)
theorem Rep.kill {w : World} {ρ : Nat -> Option Nat} {Im : Nat -> Prop} (p : Nat -> Bool) {a : AV} {y : Value} (h : Rep w ρ Im a y) : Rep w ρ Im (a.kill p) y := by
 unfold AV.kill; split
 . exact h.dk p
 . exact h
theorem AV.dk_cells (p : Nat -> Bool) (e : AV) : (AV.dk p e).cells = e.cells.map (AV.dk p) := by
 cases e with
 | own a s i n => simp only [AV.dk, AV.cells, L0l, L0G]; by_cases h : p a = true <;> simp [h]
 | ptr a s i n => simp only [AV.dk, AV.cells, L0l, L0G]; by_cases h : p a = true <;> simp [h]
 | mref a => simp only [AV.dk, AV.cells, L0l, L0G]; by_cases h : p a = true <;> simp [h]
 | _ => simp [AV.dk, AV.cells, AV.dkL_eq]
theorem Blk.kill_sz (p : Nat -> Bool) (k : Blk) : (k.kill p).sz = k.sz /\ (k.kill p).e = k.e /\ (k.kill p).es.length = k.es.length := by
 unfold Blk.kill; split <;> simp [AV.dkL_eq]
theorem Blk.kill_get (p : Nat -> Bool) (k : Blk) {i j : Nat} {e c : AV} (f : (k.kill p).es[i]? = some e) (d : e.cells[j]? = some c) :
 ∃ o l, k.es[i]? = some o /\ o.cells[j]? = some l /\ (c = l \/ c = AV.dk p l) /\ ∀ b, Names c b -> Names l b /\ p b = false := by
 unfold Blk.kill at f
 split at f
 . simp only [AV.dkL_eq, L07] at f
   cases h0 : k.es[i]? with
   | none => simp [h0] at f
   | some o =>
    simp [h0] at f; subst f
    rw [AV.dk_cells, L07] at d
    cases h1 : o.cells[j]? with
    | none => simp [h1] at d
    | some l => simp [h1] at d; subst d; exact ⟨o, l, rfl, h1, .inr rfl, AV.dk_names p l⟩
 . rename_i s
   refine ⟨e, c, f, d, .inl rfl, λ b h => ⟨h, ?_⟩⟩
   cases hp : p b with
   | false => rfl
   | true =>
   refine absurd ((AV.namesL_iff _ _).2 ⟨e, L02 f, ?_⟩) s
   cases e with
   | agg q => exact AV.namesB_of _ (.agg q c b (L02 d) h) hp
   | _ => simp only [AV.cells, List.getElem?_singleton] at d; split at d <;> simp at d; subst d; exact AV.namesB_of _ h hp
theorem Blk.kill_len (p : Nat -> Bool) (k : Blk) (h : ∀ e ∈ k.es, e.cells.length = k.sz) : ∀ e ∈ (k.kill p).es, e.cells.length = k.sz := by
 unfold Blk.kill; split
 . simp only [AV.dkL_eq, L05]
   rintro e ⟨b, c, rfl⟩
   rw [AV.dk_cells, L0c]; exact h b c
 . exact h
def killR (p : Nat -> Bool) (ρ : Nat -> Option Nat) : Nat -> Option Nat := λ t => if p t then none else ρ t
theorem Jae {p : Nat -> Bool} {ρ : Nat -> Option Nat} {t b : Nat} (h : killR p ρ t = some b) : p t = false /\ ρ t = some b := by
 unfold killR at h; split at h
 . cases h
 . exact ⟨by simp_all, h⟩
theorem JaF {p : Nat -> Bool} (ρ : Nat -> Option Nat) {t : Nat} (h : p t = false) : killR p ρ t = ρ t := by simp [killR, h]
theorem Rep.killR {w : World} {ρ : Nat -> Option Nat} {Im : Nat -> Prop} {p : Nat -> Bool} {a : AV} {y : Value} (h : Rep w ρ Im a y) (f : ∀ id, Names a id -> p id = false) : Rep w (killR p ρ) Im a y :=
 h.mono (λ _ h => h) (λ _ _ => rfl) λ id c => ⟨JaF ρ (f id c), λ _ _ b _ d => ⟨b, d, rfl⟩⟩
theorem Inv.kill {w : World} {ρ : Nat -> Option Nat} {Im : Nat -> Prop} {σ : Jac} (p : Nat -> Bool) (h : Inv w ρ Im σ) : Inv w (killR p ρ) Im (Jao p σ) where
 nil := λ i k l d => by
  simp only [Jao] at l
  split at l
  . cases l
  . rename_i q; simp only [L0h] at l; obtain ⟨o, y, rfl⟩ := l
    rw [JaF ρ (by simpa using q)] at d
    have := h.nil i o y d
    have s := (Blk.kill_sz p o).2.2; rw [this] at s
    exact L0T (by simpa using s)
 map := λ i k b l d P => by
  obtain ⟨q, d⟩ := Jae d
  simp only [Jao, q, L0C, if_false, L0h] at l; obtain ⟨o, y, rfl⟩ := l
  obtain ⟨t, R, Q⟩ := Blk.kill_sz p o
  obtain ⟨u, C, F, s, H⟩ := h.map i o b y d (by rw [<- t]; exact P)
  refine ⟨u, C, F, by rw [Q]; exact s, λ j m W => ?_⟩
  obtain ⟨v, O, A⟩ := H j m W
  unfold Blk.kill
  split
  . refine ⟨AV.dk p v, ?_, Rep.killR (A.dk p) λ id f => (AV.dk_names p v id f).2⟩
    simp only [AV.dkL_eq, L07, O, L0I, AV.dk, L0l, L0G]
  . rename_i X
    refine ⟨v, O, Rep.killR A λ id f => ?_⟩
    cases hpp : p id with
    | false => rfl
    | true => exact absurd ((AV.namesL_iff _ _).2 ⟨_, L02 O, AV.namesB_of p (.tup _ v id (by simp) f) hpp⟩) X
 blk := λ i k b l d P => by
  obtain ⟨q, d⟩ := Jae d
  simp only [Jao, q, L0C, if_false, L0h] at l; obtain ⟨o, y, rfl⟩ := l
  obtain ⟨t, R, Q⟩ := Blk.kill_sz p o
  obtain ⟨D, F, s, B, H⟩ := h.blk i o b y d (by rw [<- t]; exact P)
  refine ⟨D, by rw [R]; exact F, by rw [t]; exact Blk.kill_len p o s, by rw [t, Q]; exact B, λ i' e j c V J => ?_⟩
  obtain ⟨T, S, K, I, M, L⟩ := Blk.kill_get p o V J
  obtain ⟨x, Z, E, z⟩ := H i' T j S K I
  rw [t]
  refine ⟨x, Z, E, Rep.killR ?_ λ id f => (L id f).2⟩
  rcases M with rfl | rfl
  . exact z
  . exact z.dk p
 inj := λ i j b E U => h.inj i j b (Jae E).2 (Jae U).2
 live := λ i b d B => by
  obtain ⟨q, d⟩ := Jae d
  simp only [Jao, q, L0C, if_false, Option.map_eq_none_iff] at B
  exact h.live i b d B
 apart := λ i b d => h.apart i b (Jae d).2
 low := h.low
theorem JaK.kill {w : World} {ρ : Nat -> Option Nat} {Im : Nat -> Prop} {E : Env} {tm : Array Value} (p : Nat -> Bool) (h : JaK w ρ Im E tm) : JaK w (killR p ρ) Im (JaU p E) tm :=
 λ t y c => Rep.killR ((h t y c).kill p) λ id b => (AV.kill_names p (E t) id b).2
open Go.RowKit
def gtab : List (Nat × List Value) := [(0, [.int .u32 1116352408, .int .u32 1899447441, .int .u32 3049323471, .int .u32 3921009573, .int .u32 961987163, .int .u32 1508970993, .int .u32 2453635748, .int .u32 2870763221, .int .u32 3624381080, .int .u32 310598401, .int .u32 607225278, .int .u32 1426881987, .int .u32 1925078388, .int .u32 2162078206, .int .u32 2614888103, .int .u32 3248222580, .int .u32 3835390401, .int .u32 4022224774, .int .u32 264347078, .int .u32 604807628, .int .u32 770255983, .int .u32 1249150122, .int .u32 1555081692, .int .u32 1996064986, .int .u32 2554220882, .int .u32 2821834349, .int .u32 2952996808, .int .u32 3210313671, .int .u32 3336571891, .int .u32 3584528711, .int .u32 113926993, .int .u32 338241895, .int .u32 666307205, .int .u32 773529912, .int .u32 1294757372, .int .u32 1396182291, .int .u32 1695183700, .int .u32 1986661051, .int .u32 2177026350, .int .u32 2456956037, .int .u32 2730485921, .int .u32 2820302411, .int .u32 3259730800, .int .u32 3345764771, .int .u32 3516065817, .int .u32 3600352804, .int .u32 4094571909, .int .u32 275423344, .int .u32 430227734, .int .u32 506948616, .int .u32 659060556, .int .u32 883997877, .int .u32 958139571, .int .u32 1322822218, .int .u32 1537002063, .int .u32 1747873779, .int .u32 1955562222, .int .u32 2024104815, .int .u32 2227730452, .int .u32 2361852424, .int .u32 2428436474, .int .u32 2756734187, .int .u32 3204031479, .int .u32 3329325298])]
def GIs (b : Nat) : Prop := ∃ p ∈ gtab, p.1 = b
def GOK (w : World) (Im : Nat -> Prop) : Prop := ∀ p ∈ gtab, Im p.1 /\ ∀ (i : Nat) (v : Value), p.2[i]? = some v -> w.cell? ⟨p.1, i, none⟩ = some v /\ v.oneCell' = true
theorem GOK.mono {w w' : World} {Im c : Nat -> Prop} (h : GOK w Im) (f : ∀ b, Im b -> c b) (k : ∀ b, GIs b -> w'.heap[b]? = w.heap[b]?) : GOK w' c :=
 λ p d => ⟨f _ (h p d).1, λ i v l => by rw [World.cell?_of_block (k p.1 ⟨p, d, rfl⟩)]; exact (h p d).2 i v l⟩
theorem GOK.im {w : World} {Im : Nat -> Prop} (h : GOK w Im) {b : Nat} (c : GIs b) : Im b := by
 obtain ⟨p, d, rfl⟩ := c; exact (h p d).1
structure Str where
 m : Nat -> Prop
 j : Nat -> Prop
structure Fx where
 w0 : World
 X0 : Nat -> Prop
 Im0 : Nat -> Prop
 G : AV -> Str -> World -> Prop
 N : Nat
 rd : Option (Nat × Loop)
 pin : Nat -> Option (Option Nat)
 J0 : Nat -> Prop
 R0 : Nat -> Nat -> Prop := λ _ _ => True
def stamp (D : Nat) : Deferred := { target := .collected D, args := #[] }
def Fx.book (C : Fx) (a : Act) (b : Nat) : Prop := (∃ r, C.rd = some (b, r)) \/ stamp b ∈ a.defers
def JaQ (G : AV -> Str -> World -> Prop) : Prop :=
 ∀ g M w b, G g M w -> (∀ k, M.m k \/ M.j k -> b.heap[k]? = w.heap[k]?) -> w.heap.size <= b.heap.size -> b.os = w.os -> b.tape = w.tape -> b.output = w.output -> G g M b
structure Wit (C : Fx) (E : Env) (σ : Jac) (a : Act) (w : World) (ρ : Nat -> Option Nat) (Im : Nat -> Prop) (M : Str) : Prop where
 inv : Inv w ρ Im σ
 env : JaK w ρ Im E a.tmps
 size : a.tmps.size = C.N
 ext : Ext C.w0 C.X0 w
 rng : ∀ id b, ρ id = some b -> (C.X0 b /\ C.R0 id b) \/ C.w0.heap.size <= b
 im : ∀ b, Im b -> C.Im0 b \/ C.w0.heap.size <= b
 gh : ∀ p, AV.namesB p (E C.N) = false
 g : C.G (E C.N) M w
 js : ∀ b, M.j b -> Im b
 ms : ∀ b, M.m b -> b < w.heap.size /\ (∀ id, ρ id ≠ some b) /\ ¬ Im b /\ (C.X0 b \/ C.w0.heap.size <= b)
 rd : ∀ l r, C.rd = some (l, r) -> w.heap[l]? = some (.loop r)
 nodup : a.defers.Nodup
 df : ∀ d ∈ a.defers, ∃ D, d = stamp D /\ w.heap[D]? = some (.deferred (some [])) /\ C.w0.heap.size <= D
 bk : ∀ b, C.book a b -> (∀ id, ρ id ≠ some b) /\ ¬ Im b /\ ¬ M.m b
 pin : ∀ id ob, C.pin id = some ob -> ρ id = ob
 j0 : ∀ b, C.J0 b -> Im b
def St (C : Fx) (E : Env) (σ : Jac) (a : Act) (w : World) : Prop := ∃ c b M, Wit C E σ a w c b M
section
variable {C : Fx} {E : Env} {σ : Jac} {a : Act} {w : World} {ρ : Nat -> Option Nat} {Im : Nat -> Prop} {M : Str}
theorem JdS {D b : Nat} (h : stamp D = stamp b) : D = b := by
 simp [stamp] at h; exact h
theorem Wit.bklt (h : Wit C E σ a w ρ Im M) {b : Nat} (d : C.book a b) : b < w.heap.size := by
 rcases d with ⟨r, i⟩ | f
 . exact (L0m.1 (h.rd b r i)).1
 . obtain ⟨D, e, c, _⟩ := h.df _ f
   rw [JdS e]; exact (L0m.1 c).1
theorem Wit.step (X : JaQ C.G) (h : Wit C E σ a w ρ Im M) {w' : World} {p : Nat -> Option Nat} {o : Nat -> Prop} {E' : Env} {H : Jac} {I : Act}
 (q : Ext w (λ b => ∃ id, ρ id = some b) w') (B : Inv w' p o H) (A : JaK w' p o E' I.tmps) (Q : I.tmps.size = a.tmps.size) (O : I.defers = a.defers)
 (R : E' C.N = E C.N) (z : ∀ id b, p id = some b -> ρ id = some b \/ w.heap.size <= b) (t : ∀ b, o b -> Im b \/ w.heap.size <= b)
 (F : ∀ id U, C.pin id = some U -> p id = U) (s : ∀ b, Im b -> o b) : Wit C E' H I w' p o M where
 inv := B
 env := A
 size := Q.trans h.size
 ext := h.ext.trans q λ b ⟨id, f⟩ => (h.rng id b f).imp_left And.left
 rng := λ id b f => by
  rcases z id b f with i | i
  . exact h.rng id b i
  . exact .inr (L0n h.ext.size i)
 im := λ b f => by
  rcases t b f with i | i
  . exact h.im b i
  . exact .inr (L0n h.ext.size i)
 gh := by rw [R]; exact h.gh
 g := by rw [R]; exact X _ _ _ _ h.g (λ k y => by
  rcases y with y | y
  . exact q.block k (h.ms k y).1 λ ⟨id, c⟩ => (h.ms k y).2.1 id c
  . exact q.block k (h.inv.low k (h.js k y)) λ ⟨id, c⟩ => h.inv.apart id k c (h.js k y)) q.size q.os q.tape q.output
 js := λ b f => s b (h.js b f)
 ms := λ b f => by
  obtain ⟨J, K, L, V⟩ := h.ms b f
  refine ⟨L0Q J q.size, λ id c => ?_, λ P => ?_, V⟩
  . rcases z id b c with i | i
    . exact K id i
    . omega
  . rcases t b P with i | i
    . exact L i
    . omega
 rd := λ l r T => by
  have f : C.book a l := .inl ⟨r, T⟩
  rw [q.block l (h.bklt f) λ ⟨id, c⟩ => (h.bk l f).1 id c]
  exact h.rd l r T
 nodup := by rw [O]; exact h.nodup
 df := λ d u => by
  rw [O] at u
  obtain ⟨D, e, W, S⟩ := h.df d u
  have f : C.book a D := .inr (e ▸ u)
  exact ⟨D, e, by rw [q.block D (h.bklt f) λ ⟨id, c⟩ => (h.bk D f).1 id c]; exact W, S⟩
 pin := F
 j0 := λ b f => s b (h.j0 b f)
 bk := λ b f => by
  have f : C.book a b := by unfold Fx.book at *; rwa [O] at f
  obtain ⟨J, K, L⟩ := h.bk b f
  have S := h.bklt f
  refine ⟨λ id c => ?_, λ P => ?_, L⟩
  . rcases z id b c with i | i
    . exact J id i
    . omega
  . rcases t b P with i | i
    . exact K i
    . omega
def updO (E : Env) : Option Nat -> AV -> Env
 | none, _ => E
 | some d, v => upd E d v
@[simp] theorem JrI (E : Env) (d : Nat) (v : AV) : updO E (some d) v = upd E d v := rfl
@[simp] theorem JrH (E : Env) (v : AV) : updO E none v = E := rfl
theorem JbR (a : Act) (dst : Option Nat) (y : Value) : (a.put dst y).tmps.size = a.tmps.size := by cases dst <;> simp [Act.put]
theorem Jbb (a : Act) (dst : Option Nat) (y : Value) : (a.put dst y).defers = a.defers := by cases dst <;> rfl
theorem JaK.put {tm : Act} {v : AV} {y : Value} {dst : Option Nat} (h : JaK w ρ Im E tm.tmps) (c : Rep w ρ Im v y) : JaK w ρ Im (updO E dst v) (tm.put dst y).tmps := by
 cases dst with
 | none => exact h
 | some d =>
  intro t z b
  simp only [Act.put, Array.getElem?_setIfInBounds] at b; simp only [updO, upd]
  split at b
  . rename_i e; subst e
    split at b
    . cases b; simpa using c
    . cases b
  . rename_i e
    rw [if_neg (λ h => e h.symm)]
    exact h t z b
theorem JdX {E : Env} {dst : Option Nat} {v : AV} {N : Nat} (h : ∀ d, dst = some d -> d < N) : updO E dst v N = E N := by
 cases dst with
 | none => rfl
 | some d => have := h d rfl; simp only [updO, upd]; rw [if_neg (by omega)]
theorem Wit.put (c : JaQ C.G) (h : Wit C E σ a w ρ Im M) {dst : Option Nat} {v : AV} {y : Value} (f : ∀ d, dst = some d -> d < C.N) (i : Rep w ρ Im v y) :
 Wit C (updO E dst v) σ (a.put dst y) w ρ Im M :=
 h.step c (Ext.refl _ _) h.inv (h.env.put i) (JbR ..) (Jbb ..) (JdX f) (λ id _ b => .inl b) (λ _ b => .inl b) h.pin (λ _ h => h)
theorem Jcv {p : Nat -> Bool} {a : AV} (h : AV.namesB p a = false) : a.kill p = a := by simp [AV.kill, h]
theorem Wit.kill (d : JaQ C.G) (h : Wit C E σ a w ρ Im M) (p : Nat -> Bool) (f : ∀ id b, C.pin id = some b -> p id = false) : Wit C (JaU p E) (Jao p σ) a w (killR p ρ) Im M :=
 h.step d (Ext.refl _ _) (h.inv.kill p) (h.env.kill p) rfl rfl (Jcv (h.gh p)) (λ id _ c => .inl (Jae c).2) (λ _ c => .inl c)
  (λ id b c => by rw [JaF ρ (f id b c)]; exact h.pin id b c) (λ _ h => h)
theorem Rep.drawn {v : AV} {y : Value} (h : Rep w ρ Im v y) (n : Nat) : Rep { w with drawn := n } ρ Im v y :=
 Rep.mono (w := w) (w' := { w with drawn := n }) (λ _ h => h) (λ _ _ => rfl) h λ _ _ => ⟨rfl, λ _ _ cur _ hb => ⟨cur, hb, rfl⟩⟩
theorem Inv.drew (h : Inv w ρ Im σ) (n : Nat) : Inv { w with drawn := n } ρ Im σ where
 nil := h.nil
 map := λ id k b s u A => by
  obtain ⟨d, f, o, t, p⟩ := h.map id k b s u A
  exact ⟨d, f, o, t, λ i m D => by obtain ⟨v, F, z⟩ := p i m D; exact ⟨v, F, z.drawn n⟩⟩
 blk := λ id k b s u A => by
  obtain ⟨l, o, t, E, p⟩ := h.blk id k b s u A
  exact ⟨l, o, t, E, λ i e j c C q => by
   obtain ⟨x, H, B, y⟩ := p i e j c C q
   exact ⟨x, H, B, y.drawn n⟩⟩
 inj := h.inj
 live := h.live
 apart := h.apart
 low := h.low
theorem Wit.drew (c : JaQ C.G) (h : Wit C E σ a w ρ Im M) (n : Nat) : Wit C E σ a { w with drawn := n } ρ Im M :=
 h.step c ⟨rfl, rfl, rfl, L09 _, λ _ _ _ => rfl⟩ (h.inv.drew n)
  (λ t y d => (h.env t y d).drawn n) rfl rfl rfl (λ id _ b => .inl b) (λ _ b => .inl b) h.pin (λ _ h => h)
def updR (ρ : Nat -> Option Nat) (d : Nat) (b : Option Nat) : Nat -> Option Nat := λ t => if t = d then b else ρ t
@[simp] theorem Jce (ρ : Nat -> Option Nat) (d : Nat) (b : Option Nat) : updR ρ d b d = b := by simp [updR]
theorem JaJ (ρ : Nat -> Option Nat) (d : Nat) (b : Option Nat) (t : Nat) (h : t ≠ d) : updR ρ d b t = ρ t := by simp [updR, h]
theorem Rep.later {w' : World} {d : Nat} {p : Option Nat} {v : AV} {y : Value} (h : Rep w ρ Im v y) (c : ∀ b, Im b -> b < w.heap.size) (l : ∀ id b, ρ id = some b -> b < w.heap.size)
 (o : ∀ k, k < w.heap.size -> w'.heap[k]? = w.heap[k]?) (t : ¬ Names v d) : Rep w' (updR ρ d p) Im v y :=
 h.mono (λ _ h => h) (λ b q => o b (c b q)) λ id i =>
  ⟨JaJ ρ d p id (λ e => t (e ▸ i)), λ b u f e s => ⟨f, by rw [o b (l id b u)]; exact s, rfl⟩⟩
theorem JdF {v c : AV} {id : Nat} (b : c ∈ v.cells) (h : Names c id) : Names v id := by
 cases v with
 | agg d => exact .agg d c id b h
 | _ => simp [AV.cells] at b; subst b; exact h
theorem Inv.fresh {w' : World} (h : Inv w ρ Im σ) (W : w.heap.size <= w'.heap.size) (y : ∀ k, k < w.heap.size -> w'.heap[k]? = w.heap[k]?) {d : Nat} {k : Blk} {I : Option Nat} {p : Nat -> Prop}
 (V : σ d = none) (F : ∀ id k', σ id = some k' -> ∀ e ∈ k'.es, ¬ Names e d)
 (D : ∀ b, Im b -> p b) (q : ∀ b, p b -> Im b \/ (w.heap.size <= b /\ b < w'.heap.size /\ I ≠ some b))
 (l : match I with
  | none => k.es = []
  | some b => w.heap.size <= b /\ b < w'.heap.size /\ (k.sz = 0 -> JrY w' (updR ρ d I) p k.es b) /\ (k.sz ≠ 0 -> ∃ cur, (∃ Q, w'.heap[b]? = some (.cells cur k.e Q) /\ Mk Q cur.size) /\ (∀ e ∈ k.es, e.cells.length = k.sz) /\ k.es.length * k.sz <= cur.size /\
   (∀ (i : Nat) (e : AV) (j : Nat) (c : AV), k.es[i]? = some e -> e.cells[j]? = some c -> ∃ x, cur[i * k.sz + j]? = some x /\ x.oneCell' = true /\ Rep w' (updR ρ d I) p c x))) :
 Inv w' (updR ρ d I) p (updS σ d k) where
 nil := λ id k' o f => by
  by_cases e : id = d
  . subst e; simp at o f; subst o; subst f; exact l
  . rw [JaI _ _ _ _ e] at o; rw [JaJ _ _ _ _ e] at f; exact h.nil id k' o f
 map := λ id k' b o f H => by
  by_cases e : id = d
  . subst e; simp at o f; subst o; subst f; exact l.2.2.1 H
  . rw [JaI _ _ _ _ e] at o; rw [JaJ _ _ _ _ e] at f
    obtain ⟨C, K, z, M, L⟩ := h.map id k' b o f H
    refine ⟨C, K, by rw [y b (h.lt f)]; exact z, M, λ i m T => ?_⟩
    obtain ⟨v, S, A⟩ := L i m T
    exact ⟨v, S, (A.later h.low (λ _ _ => h.lt) y (λ O => F id k' o _ (L02 S) (.tup _ v d (by simp) O))).mono D (λ _ _ => rfl) λ _ _ => ⟨rfl, λ _ _ cur _ y => ⟨cur, y, rfl⟩⟩⟩
 blk := λ id k' b o f H => by
  by_cases e : id = d
  . subst e; simp at o f; subst o; subst f; exact l.2.2.2 H
  . rw [JaI _ _ _ _ e] at o; rw [JaJ _ _ _ _ e] at f
    obtain ⟨cur, z, M, s, L⟩ := h.blk id k' b o f H
    refine ⟨cur, by rw [y b (h.lt f)]; exact z, M, s, λ i P j c R E => ?_⟩
    obtain ⟨x, U, u, A⟩ := L i P j c R E
    exact ⟨x, U, u, (A.later h.low (λ _ _ => h.lt) y (λ O => F id k' o P (L02 R) (JdF (L02 E) O))).mono D (λ _ _ => rfl) λ _ _ => ⟨rfl, λ _ _ cur _ y => ⟨cur, y, rfl⟩⟩⟩
 inj := λ i j b u B => by
  by_cases e1 : i = d <;> by_cases e2 : j = d
  . rw [e1, e2]
  . subst e1; rw [Jce] at u; rw [JaJ _ _ _ _ e2] at B; subst u; have := h.lt B; have := l.1; omega
  . subst e2; rw [Jce] at B; rw [JaJ _ _ _ _ e1] at u; subst B; have := h.lt u; have := l.1; omega
  . rw [JaJ _ _ _ _ e1] at u; rw [JaJ _ _ _ _ e2] at B; exact h.inj i j b u B
 live := λ i b f s => by
  by_cases e : i = d
  . subst e; simp at s
  . rw [JaJ _ _ _ _ e] at f; rw [JaI _ _ _ _ e] at s; exact h.live i b f s
 apart := λ i b f J => by
  by_cases e : i = d
  . subst e; rw [Jce] at f; subst f
    rcases q b J with t | ⟨_, _, t⟩
    . have := h.low b t; have := l.1; omega
    . exact t rfl
  . rw [JaJ _ _ _ _ e] at f
    rcases q b J with t | ⟨t, _, _⟩
    . exact h.apart i b f t
    . have := h.lt f; omega
 low := λ b J => by
  rcases q b J with t | ⟨_, t, _⟩
  . have := h.low b t; omega
  . exact t
end
def tsz (P : Program) (t : TypeId) : Nat := ((P.info? t).map (·.size)).getD 0
def tby (P : Program) (t : TypeId) : Nat := ((P.info? t).map (·.bytes)).getD 0
def tz (P : Program) (t : TypeId) : Option Value := (P.info? t).bind (·.zero)
def tagg (P : Program) (t : TypeId) : Option Bool := match P.underlying t with | some (.struct _) => some true | some (.array _ _) => some true | some _ => some false | none => none
def tel (P : Program) (t : TypeId) : Option TypeId := match P.underlying t with | some (.slice e) => some e | _ => none
def tarr (P : Program) (t : TypeId) : Option (Nat × TypeId) := match P.underlying t with | some (.array n e) => some (n, e) | _ => none
def tfld (P : Program) (t : TypeId) : Option (List (Nat × TypeId)) := match P.underlying t with | some (.struct b) => some (b.toList.map λ f => (f.offset, f.type)) | _ => none
def tint (P : Program) (t : TypeId) : Option IntKind := match P.underlying t with | some (.int k) => some k | _ => none
def tstr (P : Program) (t : TypeId) : Bool := match P.underlying t with | some .string => true | _ => false
def AV.ok : AV -> Bool
 | .agg _ => true
 | x => x.atom
def ofC : Value -> AV
 | .agg b => if b.toList.all (·.oneCell') then .agg (b.toList.map .v) else .any
 | .tuple vs => .tup (vs.toList.map .v)
 | x => .v x
def ev (E : Env) : Operand -> AV
 | .tmp t => E t
 | .const x => ofC x
 | .func f => .clo f []
 | .global _ => .any
def Ja6 (op : BinOp) (k : IntKind) (x y : Int) : Int :=
 let a := BitVec.ofInt k.bits x
 let b := BitVec.ofInt k.bits y
 match op with
 | .and => k.wrap (a &&& b).toNat
 | .or => k.wrap (a ||| b).toNat
 | .xor => k.wrap (a ^^^ b).toNat
 | .andNot => k.wrap (a &&& ~~~b).toNat
 | _ => 0
def binI (op : BinOp) (k : IntKind) (a : Int) (k' : IntKind) (b : Int) (r : AV) : Prop :=
 match op with
 | .shl => 0 <= b /\ r = .v (.int k (k.wrap (a * 2 ^ (min b.toNat k.bits))))
 | .shr => 0 <= b /\ r = .v (.int k (a.fdiv (2 ^ (min b.toNat k.bits))))
 | .add => k = k' /\ r = .v (.int k (k.wrap (a + b)))
 | .sub => k = k' /\ r = .v (.int k (k.wrap (a - b)))
 | .mul => k = k' /\ r = .v (.int k (k.wrap (a * b)))
 | .quo => k = k' /\ b ≠ 0 /\ r = .v (.int k (k.wrap (a.tdiv b)))
 | .rem => k = k' /\ b ≠ 0 /\ r = .v (.int k (a.tmod b))
 | .eql => k = k' /\ r = .v (.bool (a == b))
 | .neq => k = k' /\ r = .v (.bool (a != b))
 | .lss => k = k' /\ r = .v (.bool (decide (a < b)))
 | .leq => k = k' /\ r = .v (.bool (decide (a <= b)))
 | .gtr => k = k' /\ r = .v (.bool (decide (b < a)))
 | .geq => k = k' /\ r = .v (.bool (decide (b <= a)))
 | .and => k = k' /\ r = .v (.int k (Ja6 .and k a b))
 | .or => k = k' /\ r = .v (.int k (Ja6 .or k a b))
 | .xor => k = k' /\ r = .v (.int k (Ja6 .xor k a b))
 | .andNot => k = k' /\ r = .v (.int k (Ja6 .andNot k a b))
def binS (op : BinOp) (a b : ByteArray) (r : AV) : Prop :=
 match op with
 | .add => a.size + b.size <= 9223372036854775807 /\ r = .v (.string (a ++ b))
 | .eql => r = .v (.bool (a.toList == b.toList))
 | .neq => r = .v (.bool (!(a.toList == b.toList)))
 | .lss => r = .v (.bool (Op.bytesLess a.toList b.toList))
 | .leq => r = .v (.bool (Op.bytesLess a.toList b.toList || a.toList == b.toList))
 | .gtr => r = .v (.bool (!(Op.bytesLess a.toList b.toList || a.toList == b.toList)))
 | .geq => r = .v (.bool (!Op.bytesLess a.toList b.toList))
 | _ => False
def Jcx (P : Program) (t : TypeId) (cs : List AV) (b : Nat) (r : AV) : Prop :=
 match tagg P t with
 | some true => 0 < tsz P t /\ b + tsz P t <= cs.length /\ r = .agg ((cs.drop b).take (tsz P t))
 | some false => cs[b]? = some r
 | none => False
def JbY (σ : Jac) (a : AV) (K : List AV -> Nat -> Prop) : Prop :=
 match a with
 | .pt e j => K e.cells j
 | .ptr id sz i j => ∃ k, σ id = some k /\ k.sz = sz /\ ∃ e, k.es[i]? = some e /\ K e.cells j
 | _ => False
def Jrl (P : Program) (e : TypeId) (x : AV) (i : Int) (r : AV) : Prop :=
 match x with
 | .sl sz es => 0 < sz /\ tsz P e = sz /\ 0 <= i /\ ∃ c, es[i.toNat]? = some c /\ r = .pt c 0
 | .own id sz o n => 0 < sz /\ tsz P e = sz /\ 0 <= i /\ i < (n : Int) /\ r = .ptr id sz (o + i.toNat) 0
 | _ => False
def JoC (P : Program) (e : TypeId) (x : AV) (lo hi : Nat) (r : AV) : Prop :=
 match x with
 | .sl sz es => 0 < sz /\ tsz P e = sz /\ lo <= hi /\ hi <= es.length /\ r = .sl sz ((es.drop lo).take (hi - lo))
 | .own id sz o n => 0 < sz /\ tsz P e = sz /\ lo <= hi /\ hi <= n /\ r = .own id sz (o + lo) (hi - lo)
 | _ => False
def Jnk (x : AV) (lo hi : Nat) (r : AV) : Prop :=
 match x with
 | .v (.string s) => lo <= hi /\ hi <= s.size /\ r = .v (.string (s.extract lo hi))
 | _ => False
def bound (E : Env) (x : Option Operand) (b : Nat) (K : Nat -> Prop) : Prop :=
 match x with
 | none => K b
 | some y => match ev E y with
  | .v (.int _ n) => 0 <= n /\ K n.toNat
  | _ => False
def lenV : AV -> Option Nat
 | .sl _ es => some es.length
 | .own _ _ _ n => some n
 | .v (.string s) => some s.size
 | .v (.slice _ n _) => some n
 | _ => none
def tkind (P : Program) (t : TypeId) : Option Nat := match P.underlying t with | some (.int _) => some 0 | some .bool => some 1 | some .string => some 2 | _ => none
def Jck (P : Program) : Nat -> List Field -> Option (List Nat)
 | _, [] => some []
 | i, f :: fs => if f.name != "_" && f.offset == i then (tkind P f.type).bind fun k => (Jck P (i + 1) fs).map (k :: ·) else none
def JbF (P : Program) : Nat -> List Field -> Option (List Nat)
 | _, [] => some []
 | i, f :: fs => if f.name != "_" && f.offset == i then
  match tkind P f.type with
  | some k => (JbF P (i + 1) fs).map (k :: ·)
  | none => match P.underlying f.type with
   | some (.struct gs) => if P.stoodInHeld f.type then none else (Jck P 0 gs.toList).bind fun ks1 => if ks1.length = tsz P f.type /\ 0 < tsz P f.type then (JbF P (i + ks1.length) fs).map (ks1 ++ ·) else none
   | _ => none
  else none
def teq (P : Program) (t : TypeId) : Option (List Nat) := match P.underlying t with
 | some (.struct b) => if P.stoodInHeld t || P.eqGuardType P.depth t then none else JbF P 0 b.toList
 | _ => none
def eqK : List Nat -> List AV -> List AV -> Option Bool
 | [], [], [] => some true
 | 0 :: c, .v (.int k a) :: r, .v (.int d b) :: s => if k = d then (eqK c r s).map ((a == b) && ·) else none
 | 1 :: c, .v (.bool a) :: r, .v (.bool b) :: s => (eqK c r s).map ((a == b) && ·)
 | 2 :: c, .v (.string a) :: r, .v (.string b) :: s => (eqK c r s).map ((a.toList == b.toList) && ·)
 | _, _, _ => none
def Jdy (b : Nat -> Option (Nat × Nat)) (cs : List AV) : List (Nat × AV) -> Option (List AV)
 | [] => some cs
 | (i, v) :: d => match b i with
  | none => none
  | some (c, size) => if v.cells.length = size /\ c + size <= cs.length /\ v.ok = true then Jdy b (cs.take c ++ v.cells ++ cs.drop (c + size)) d else none
def AV.full : AV -> Bool
 | .sl _ (_ :: _) => true
 | .own _ _ _ (_ + 1) => true
 | _ => false
def JaH (P : Program) (op : Op) (E : Env) (σ : Jac) (r : AV) : Prop :=
 match op with
 | .move x => r = ev E x
 | .assign x => r = ev E x
 | .pick c x y => match ev E c with | .v (.bool b) => r = if b then ev E x else ev E y | _ => False
 | .load t x => JbY σ (ev E x) λ w j => Jcx P t w j r
 | .nilCheck x => match ev E x with | .pt e j => r = .pt e j | .ptr id sz i j => r = .ptr id sz i j | .clo g w => r = .clo g w | _ => False
 | .binOp op t x y _ => match ev E x, ev E y with
  | .v (.int k a), .v (.int L b) => binI op k a L b r
  | .v (.string a), .v (.string b) => binS op a b r
  | .v (.bool a), .v (.bool b) => tkind P t = some 1 /\ ((op = .eql /\ r = .v (.bool (a == b))) \/ (op = .neq /\ r = .v (.bool (!(a == b)))))
  | .agg w, .agg K => ∃ I, teq P t = some I /\ ∃ b, eqK I w K = some b /\ ((op = .eql /\ r = .v (.bool b)) \/ (op = .neq /\ r = .v (.bool (!b))))
  | u, .v (.slice none 0 0) => u.full = true /\ (tel P t).isSome = true /\ ((op = .eql /\ r = .v (.bool false)) \/ (op = .neq /\ r = .v (.bool true)))
  | _, _ => False
 | .build t B => ∃ z, tz P t = some z /\ (ofC z).ok = true /\
  ((∃ C, tfld P t = some C /\ (C.all λ f => decide (0 < tsz P f.2)) = true /\ ∃ w, Jdy (λ i => (C[i]?).map λ f => (f.1, tsz P f.2)) (ofC z).cells (B.toList.map λ p => (p.1, ev E p.2)) = some w /\ r = .agg w) \/
   (∃ m e, tarr P t = some (m, e) /\ 0 < tsz P e /\ ∃ w, Jdy (λ i => some (i * tsz P e, tsz P e)) (ofC z).cells (B.toList.map λ p => (p.1, ev E p.2)) = some w /\ r = .agg w))
 | .unOp op _ x => match op, ev E x with
  | .not, .v (.bool b) => r = .v (.bool (!b))
  | .neg, .v (.int k n) => r = .v (.int k (k.wrap (0 - n)))
  | .xor, .v (.int k n) => r = .v (.int k (Ja6 .xor k (if k.signed then -1 else k.max) n))
  | _, _ => False
 | .convert F D x => match tint P D, ev E x with
  | some k, .v (.int _ n) => (∃ d, P.underlying F = some d) /\ r = .v (.int k (k.wrap n))
  | _, _ => False
 | .makeFunc (.func f) first w => (first = #[] /\ JaM (w.toList.map (ev E)) = true /\ r = .clo f (w.toList.map (ev E))) \/ (w = #[] /\ r = .clo f (.v (.tuple #[]) :: first.toList.map (ev E)))
 | .fieldAddr s x f => ∃ C, tfld P s = some C /\ ∃ A t, C[f]? = some (A, t) /\ 0 < tsz P t /\
  match ev E x with | .pt e j => r = .pt e (j + A) | .ptr id sz i j => r = .ptr id sz i (j + A) | _ => False
 | .field s x f => ∃ C, tfld P s = some C /\ ∃ A t, C[f]? = some (A, t) /\ match ev E x with | .agg w => Jcx P t w A r | _ => False
 | .indexAddr t x i => match ev E i with
  | .v (.int _ n) => (∃ e, tel P t = some e /\ Jrl P e (ev E x) n r) \/
   (∃ m e, tarr P t = some (m, e) /\ 0 < tsz P e /\ 0 <= n /\ n < (m : Int) /\ match ev E x with | .pt c j => r = .pt c (j + n.toNat * tsz P e) | .ptr id sz o j => r = .ptr id sz o (j + n.toNat * tsz P e) | _ => False)
  | _ => False
 | .index t x i => match ev E i, ev E x with
  | .v (.int _ n), .v (.string s) => tstr P t = true /\ 0 <= n /\ ∃ c, s[n.toNat]? = some c /\ r = .v (.int .u8 c.toNat)
  | .v (.int _ n), .agg w => ∃ m e, tarr P t = some (m, e) /\ 0 < tsz P e /\ 0 <= n /\ n < (m : Int) /\ Jcx P e w (n.toNat * tsz P e) r
  | _, _ => False
 | .extract x i => match ev E x with | .tup vs => vs[i]? = some r | _ => False
 | .slice t x J H none => (∃ e, tel P t = some e /\ ∃ n, lenV (ev E x) = some n /\ bound E H n λ h => bound E J 0 λ l => JoC P e (ev E x) l h r) \/
  tstr P t = true /\ (∃ n, lenV (ev E x) = some n /\ bound E H n λ h => bound E J 0 λ l => Jnk (ev E x) l h r)
 | .call { callee := .builtin .len, args, argTypes } => match args.toList, argTypes.toList with
  | [x], [t] => (tstr P t = true /\ match ev E x with | .v (.string s) => r = .v (.int .i64 (s.size : Int)) | _ => False) \/
   ((tel P t).isSome = true /\ match ev E x with | .sl _ es => r = .v (.int .i64 (es.length : Int)) | .own _ _ _ n => r = .v (.int .i64 (n : Int)) | .v (.slice _ n _) => r = .v (.int .i64 (n : Int)) | _ => False) \/
   (∃ m e, tarr P t = some (m, e) /\ r = .v (.int .i64 (m : Int)))
  | _, _ => False
 | .call { callee := .builtin .max, args, argTypes := _ } => match args.toList.map (ev E) with
  | [.v (.int k a), .v (.int _ b)] => r = .v (.int k (if b > a then b else a))
  | _ => False
 | .call { callee := .builtin .min, args, argTypes := _ } => match args.toList.map (ev E) with
  | [.v (.int k a), .v (.int _ b)] => r = .v (.int k (if b < a then b else a))
  | _ => False
 | .call { callee := .builtin .unsafeSliceData, args, argTypes := _ } => match args.toList.map (ev E) with
  | [.own id sz 0 (_ + 1)] => sz = 1 /\ r = .ptr id 1 0 0
  | _ => False
 | _ => False
section runs
variable {P : Program} {w : World} {ρ : Nat -> Option Nat} {Im : Nat -> Prop}
theorem Jqf {t : TypeId} (h : 0 < tsz P t) : ∃ i, P.info? t = some i /\ i.size = tsz P t /\ i.bytes = tby P t := by
 unfold tsz tby at *
 cases hi : P.info? t with
 | none => simp [hi] at h
 | some i => exact ⟨i, rfl, by simp, by simp⟩
theorem Jat {t : TypeId} (h : 0 < tsz P t) (w : World) : (sizeOf t).run P w = .ok (tsz P t) w := by
 obtain ⟨i, b, c, _⟩ := Jqf h
 simp [sizeOf, typeInfo, b, c]
theorem Jed {t : TypeId} {b : Bool} (h : tagg P t = some b) (w : World) : (isAgg t).run P w = .ok b w := by
 unfold tagg at h; unfold isAgg
 cases hu : P.underlying t with
 | none => simp [hu] at h
 | some d =>
  simp only [hu] at h; rw [Sem.run_bind, run_underlying hu w]
  cases d <;> simp_all
theorem Rep.v_inv {x y : Value} (h : Rep w ρ Im (.v x) y) : y = x := by
 cases h with | im _ _ h => cases h; rfl
theorem Rep.full {a : AV} {y : Value} (h : Rep w ρ Im a y) (k : a.full = true) : ∃ l n c, y = .slice (some l) n c := by
 cases h with
 | im _ _ h =>
  cases h with
  | sl sz es b o d f => exact ⟨_, _, _, rfl⟩
  | slnil sz a d => simp [AV.full] at k
  | _ => simp [AV.full] at k
 | own id sz n b d p e => exact ⟨_, _, _, rfl⟩
 | ownNil id sz => simp [AV.full] at k
 | ownAt id sz i n b d a s u t q z =>
  cases n with
  | zero => simp [AV.full] at k
  | succ n => rw [q (by omega)]; exact ⟨_, _, _, rfl⟩
 | _ => simp [AV.full] at k
theorem Rep.agg_inv {cs : List AV} {y : Value} (h : Rep w ρ Im (.agg cs) y) : ∃ ys : List Value, y = .agg ys.toArray /\ cs.length = ys.length /\ (∀ y ∈ ys, y.oneCell' = true) /\
 ∀ (j : Nat) (c : AV) (y : Value), cs[j]? = some c -> ys[j]? = some y -> Rep w ρ Im c y := by
 cases h with
 | im _ _ h => cases h with | agg _ ys d b h => exact ⟨ys, rfl, d, b, λ j c y f i => .im _ _ (h j c y f i)⟩
 | agg _ ys d b h => exact ⟨ys, rfl, d, b, h⟩
theorem Rep.tup_inv {cs : List AV} {y : Value} (h : Rep w ρ Im (.tup cs) y) : ∃ ys : List Value, y = .tuple ys.toArray /\ cs.length = ys.length /\
 ∀ (j : Nat) (c : AV) (y : Value), cs[j]? = some c -> ys[j]? = some y -> Rep w ρ Im c y := by
 cases h with
 | im _ _ h => cases h with | tup _ ys b h => exact ⟨ys, rfl, b, λ j c y d f => .im _ _ (h j c y d f)⟩
 | tup _ ys b h => exact ⟨ys, rfl, b, h⟩
theorem Rep.clo_inv {g : Nat} {cs : List AV} {y : Value} (h : Rep w ρ Im (.clo g cs) y) : ∃ ys : List Value, y = mkF g ys /\ cs.length = ys.length /\
 ∀ (j : Nat) (c : AV) (y : Value), cs[j]? = some c -> ys[j]? = some y -> Rep w ρ Im c y := by
 cases h with
 | im _ _ h => cases h with | clo _ _ ys b h => exact ⟨ys, rfl, b, λ j c y d f => .im _ _ (h j c y d f)⟩
 | clo _ _ ys b h => exact ⟨ys, rfl, b, h⟩
theorem Jh7 {g : Nat} {cs : List AV} {ys : List Value} (d : JaM cs = true) (q : cs.length = ys.length) (h : ∀ (j : Nat) (c : AV) (y : Value), cs[j]? = some c -> ys[j]? = some y -> Rep w ρ Im c y) : mkF g ys = .func (.func g) #[] ys.toArray := by
 match cs, ys, q with
 | [], [], _ => rfl
 | c :: cs, y :: ys, _ =>
  have i := h 0 c y rfl rfl
  have f : ∀ t, y ≠ .tuple t := λ t e => by
   cases c with
   | any => cases d
   | tup => cases d
   | v x => have := i.v_inv; subst this; subst e; cases d
   | clo o k =>
    obtain ⟨z, s, _⟩ := i.clo_inv
    obtain ⟨a, b, l⟩ := Ji9 o z
    rw [s, l] at e; cases e
   | _ =>
    subst e
    cases i with
    | im _ _ p => cases p
  unfold mkF
  split
  . rename_i t u e
    cases e
    exact absurd rfl (f t)
  . rfl
theorem Rep.clo_plain {g : Nat} {cs : List AV} {y : Value} (h : Rep w ρ Im (.clo g cs) y) (f : JaM cs = true) : ∃ ys : List Value, y = .func (.func g) #[] ys.toArray /\ cs.length = ys.length /\
 ∀ (j : Nat) (c : AV) (y : Value), cs[j]? = some c -> ys[j]? = some y -> Rep w ρ Im c y := by
 obtain ⟨ys, rfl, b, d⟩ := h.clo_inv
 exact ⟨ys, Jh7 f b d, b, d⟩
theorem Rep.agg_mk {cs : List AV} {ys : List Value} (d : cs.length = ys.length) (b : ∀ y ∈ ys, y.oneCell' = true) (h : ∀ (j : Nat) (c : AV) (y : Value), cs[j]? = some c -> ys[j]? = some y -> Rep w ρ Im c y) :
 Rep w ρ Im (.agg cs) (.agg ys.toArray) := .agg cs ys d b h
def Reps (w : World) (ρ : Nat -> Option Nat) (Im : Nat -> Prop) (cs : List AV) (ys : List Value) : Prop :=
 cs.length = ys.length /\ ∀ (j : Nat) (c : AV) (y : Value), cs[j]? = some c -> ys[j]? = some y -> Rep w ρ Im c y
theorem Jgi {t : TypeId} {cs : List AV} {b : Nat} {r : AV} (h : Jcx P t cs b r) {ys : List Value} (k : Reps w ρ Im cs ys) (p : ∀ y ∈ ys, y.oneCell' = true) :
 ∃ y, (part t ys.toArray b).run P w = .ok y w /\ Rep w ρ Im r y := by
 unfold Jcx at h
 split at h
 . rename_i l; obtain ⟨u, q, rfl⟩ := h; have o := Jat u w
   have s : (ys.drop b).take (tsz P t) = (ys.take (b + tsz P t)).drop b := by rw [List.take_drop]
   refine ⟨.agg ((ys.drop b).take (tsz P t)).toArray, ?_, .agg _ _ (by simp [k.1]) (λ y i => p y (L16 (L0J i))) λ j c y d i => ?_⟩
   . simp only [part, Sem.run_bind, Jed l w, Result.andThen_ok, if_true, o, Sem.run_pure]
     rw [s]; simp [List.extract_toArray, List.take_drop]
   . rw [L0j] at d i
     split at d
     . simp only [*, if_true, L0D] at d i
       exact k.2 _ c y d i
     . cases d
 . rename_i l
   have f : b < ys.length := by rw [<- k.1]; exact (L0a.1 h).1
   refine ⟨ys[b], ?_, k.2 b r _ h (L08 f)⟩
   simp [part, Jed l w, f]
 . exact h.elim
theorem Jbd (b o i : Nat) : (⟨b, o, none⟩ : Addr).add i = ⟨b, o + i, none⟩ := by
 unfold Addr.add; split <;> simp_all
variable {E : Env} {σ : Jac} {a : Act}
theorem JeS (D : Inv w ρ Im σ) {x : AV} {K : List AV -> Nat -> Prop} {y : Value} (h : JbY σ x K) (s : Rep w ρ Im x y) :
 ∃ cs j b o ys, K cs j /\ y = .pointer (some ⟨b, o + j, none⟩) /\ Reps w ρ Im cs ys /\ (∀ y ∈ ys, y.oneCell' = true) /\ ∀ i v, ys[i]? = some v -> w.cell? ⟨b, o + i, none⟩ = some v := by
 unfold JbY at h
 split at h
 . rename_i e j
   cases s with
   | im _ _ s =>
    cases s with
    | pt _ _ b o f O I F =>
     refine ⟨e.cells, j, b, o, (List.range e.cells.length).map f, h, rfl, ⟨by simp, λ i c y q u => ?_⟩, λ y u => ?_, λ i v A => ?_⟩
     . have d := (L0a.1 q).1
       simp [d] at u; subst u
       exact .im _ _ (F i c q)
     . obtain ⟨i, S, rfl⟩ := L05.1 u
       exact (I i (by simpa using S)).2
     . have d := (L0a.1 A).1
       simp at d
       simp [d] at A; subst A
       exact (I i d).1
 . rename_i id sz i j; obtain ⟨k, T, H, e, M, P⟩ := h
   cases s with
   | im _ _ s => cases s
   | ptr _ _ _ _ b L V =>
    obtain ⟨B, Q, E, U, I⟩ := D.blk id k b T L (by rw [H]; exact V)
    subst H; have R := E e (L02 M)
    have p : ∀ l, l < e.cells.length -> ∃ x, B[i * k.sz + l]? = some x /\ x.oneCell' = true /\ ∃ c, e.cells[l]? = some c /\ Rep w ρ Im c x := λ l t => by
     obtain ⟨x, z, J, s⟩ := I i e l e.cells[l] M (L08 t)
     exact ⟨x, z, J, _, L08 t, s⟩
    refine ⟨e.cells, j, b, i * k.sz, (List.range e.cells.length).map λ l => (B[i * k.sz + l]?).getD undef, P, rfl, ⟨by simp, λ l c y q u => ?_⟩, λ y u => ?_, λ l v A => ?_⟩
    . have d := (L0a.1 q).1
      obtain ⟨x, z, _, W, C, s⟩ := p l d
      rw [q] at C; cases C
      simp [d, z] at u; subst u; exact s
    . obtain ⟨l, t, rfl⟩ := L05.1 u
      obtain ⟨x, z, J, _⟩ := p l (by simpa using t)
      simpa [z] using J
    . have d := (L0a.1 A).1
      simp at d
      obtain ⟨x, z, _⟩ := p l d
      simp [d, z] at A; subst A
      rw [Jbs Q]; exact z
 . exact h.elim
theorem JfM {t : TypeId} {cs : List AV} {j b o : Nat} {r : AV} {ys : List Value} (h : Jcx P t cs j r) (l : Reps w ρ Im cs ys) (A : ∀ y ∈ ys, y.oneCell' = true)
 (u : ∀ (i : Nat) (v : Value), ys[i]? = some v -> w.cell? ⟨b, o + i, none⟩ = some v) : ∃ y, (loadVar t ⟨b, o + j, none⟩).run P w = .ok y w /\ Rep w ρ Im r y := by
 unfold Jcx at h
 split at h
 . rename_i s; obtain ⟨C, B, rfl⟩ := h
   have z := run_loadCells_list (P := P) w ⟨b, o + j, none⟩ ((ys.drop j).take (tsz P t)) (λ i v q => by
    rw [Jbd, L0K]
    refine u _ _ ?_
    rw [L0j] at q
    split at q
    . simpa [L0D] using q
    . cases q)
   have f : ((ys.drop j).take (tsz P t)).length = tsz P t := by rw [L01, L0g, <- l.1]; omega
   rw [f] at z
   refine ⟨.agg ((ys.drop j).take (tsz P t)).toArray, ?_, .agg _ _ (by simp [l.1]) (λ y p => A y (L16 (L0J p))) λ i c y d p => ?_⟩
   . simp only [loadVar, Sem.run_bind, Jed s w, Result.andThen_ok, if_true, Jat C w, z, Sem.run_pure]
   . rw [L0j] at d p
     split at d
     . simp only [*, if_true, L0D] at d p
       exact l.2 _ c y d p
     . cases d
 . rename_i s
   have k : j < ys.length := by rw [<- l.1]; exact (L0a.1 h).1
   refine ⟨ys[j], ?_, l.2 j r _ h (L08 k)⟩
   have := u j ys[j] (L08 k)
   simp [loadVar, Jed s w, load, Sem.run, this]
 . exact h.elim
theorem JeB (x : Value) : Rep w ρ Im (ofC x) x := by
 unfold ofC
 split
 . rename_i f
   split
   . rename_i h
     have := IRep.agg (w := w) (Im := Im) (f.toList.map .v) f.toList (by simp) (L0f.1 h) λ j c y b d => by
      rw [L07, d] at b; simp at b; subst b; exact .v y
     exact .im _ _ (by simpa using this)
   . exact .im _ _ (.any _)
 . rename_i vs
   have := IRep.tup (w := w) (Im := Im) (vs.toList.map .v) vs.toList (by simp) λ j c y b d => by
    rw [L07, d] at b; simp at b; subst b; exact .v y
   exact .im _ _ (by simpa using this)
 . exact .im _ _ (.v _)
def Operand.low (N : Nat) : Operand -> Bool
 | .tmp t => decide (t < N)
 | _ => true
theorem Jb8 (b : JaK w ρ Im E a.tmps) {x : Operand} (d : Operand.low a.tmps.size x = true) : Rep w ρ Im (ev E x) (a.eval x) := by
 cases x with
 | tmp t =>
  simp only [Operand.low, decide_eq_true_eq] at d
  have h : a.tmps[t]? = some (a.tmps.getD t undef) := by simp [d]
  exact b t _ h
 | const v => exact JeB v
 | global g => exact .im _ _ (.any _)
 | func f => exact .clo f [] [] rfl (λ j c y i => by simp at i)
end runs
variable {P : Program} {w : World} {ρ : Nat -> Option Nat} {Im : Nat -> Prop} {E : Env} {σ : Jac} {a : Act}
def Op.low (N : Nat) (op : Op) : Bool := op.operands.toList.all (Operand.low N)
theorem JbP {N : Nat} {op : Op} (h : Op.low N op = true) {x : Operand} (b : x ∈ op.operands) : Operand.low N x = true := by
 unfold Op.low at h
 exact L0f.1 h x (L0x.2 b)
theorem JdD (op : BinOp) (b : op = .and \/ op = .or \/ op = .xor \/ op = .andNot) (k : IntKind) (x y : Int) (w : World) :
 (Op.intBits op k x y).run P w = .ok (.int k (Ja6 op k x y)) w := by
 rcases b with rfl | rfl | rfl | rfl <;> rfl
theorem JnB {op : BinOp} {t : TypeId} {k k' : IntKind} {m n : Int} {r : AV} (h : binI op k m k' n r) (w : World) :
 ∃ y, (binOp op t (.int k m) (.int k' n)).run P w = .ok y w /\ r = .v y := by
 unfold binI at h
 split at h
 . obtain ⟨b, rfl⟩ := h
   exact ⟨_, by simp only [binOp, Op.shift]; rw [if_neg (by omega)]; rfl, rfl⟩
 . obtain ⟨b, rfl⟩ := h
   exact ⟨_, by simp only [binOp, Op.shift]; rw [if_neg (by omega)]; rfl, rfl⟩
 . obtain ⟨rfl, rfl⟩ := h; exact ⟨_, by simp [binOp, Op.intArith], rfl⟩
 . obtain ⟨rfl, rfl⟩ := h; exact ⟨_, by simp [binOp, Op.intArith], rfl⟩
 . obtain ⟨rfl, rfl⟩ := h; exact ⟨_, by simp [binOp, Op.intArith], rfl⟩
 . obtain ⟨rfl, b, rfl⟩ := h; exact ⟨_, by simp [binOp, Op.intDiv, b], rfl⟩
 . obtain ⟨rfl, b, rfl⟩ := h; exact ⟨_, by simp [binOp, Op.intDiv, b], rfl⟩
 . obtain ⟨rfl, rfl⟩ := h; exact ⟨_, by simp [binOp, Op.intCmp], rfl⟩
 . obtain ⟨rfl, rfl⟩ := h; exact ⟨_, by simp [binOp, Op.intCmp], rfl⟩
 . obtain ⟨rfl, rfl⟩ := h; exact ⟨_, by simp [binOp, Op.intCmp], rfl⟩
 . obtain ⟨rfl, rfl⟩ := h; exact ⟨_, by simp [binOp, Op.intCmp], rfl⟩
 . obtain ⟨rfl, rfl⟩ := h; exact ⟨_, by simp [binOp, Op.intCmp], rfl⟩
 . obtain ⟨rfl, rfl⟩ := h; exact ⟨_, by simp [binOp, Op.intCmp], rfl⟩
 . obtain ⟨rfl, rfl⟩ := h; exact ⟨_, by simp only [binOp, ne_eq, not_true_eq_false, if_false]; exact JdD .and (by simp) k m n w, rfl⟩
 . obtain ⟨rfl, rfl⟩ := h; exact ⟨_, by simp only [binOp, ne_eq, not_true_eq_false, if_false]; exact JdD .or (by simp) k m n w, rfl⟩
 . obtain ⟨rfl, rfl⟩ := h; exact ⟨_, by simp only [binOp, ne_eq, not_true_eq_false, if_false]; exact JdD .xor (by simp) k m n w, rfl⟩
 . obtain ⟨rfl, rfl⟩ := h; exact ⟨_, by simp only [binOp, ne_eq, not_true_eq_false, if_false]; exact JdD .andNot (by simp) k m n w, rfl⟩
theorem JnC {op : BinOp} {t : TypeId} {m n : ByteArray} {r : AV} (h : binS op m n r) (w : World) :
 ∃ y, (binOp op t (.string m) (.string n)).run P w = .ok y w /\ r = .v y := by
 unfold binS at h
 split at h
 . obtain ⟨b, rfl⟩ := h
   refine ⟨_, ?_, rfl⟩
   have : ¬ ((m.size + n.size : Nat) : Int) > IntKind.i64.max := by
    have : IntKind.i64.max = 9223372036854775807 := by decide
    rw [this]; omega
   simp only [binOp, Op.stringOp, this, if_false, Sem.run_pure]
 all_goals first
  | (subst h; exact ⟨_, by simp only [binOp, Op.stringOp, Sem.run_pure], rfl⟩)
  | exact h.elim
theorem Jlx {op : BinOp} {t : TypeId} {x y : Operand} {k k' : IntKind} {m n : Int} (w : World) : (eqGuard op t x y (.int k m) (.int k' n)).run P w = .ok () w := by
 unfold eqGuard; cases op <;> rfl
theorem JhN {op : BinOp} {t : TypeId} {x y : Operand} {m n : ByteArray} (w : World) : (eqGuard op t x y (.string m) (.string n)).run P w = .ok () w := by
 unfold eqGuard; cases op <;> rfl
theorem Jep {b o c : Nat} {f : Field} (h : 0 < tsz P f.type) (d : f.offset = c) (w : World) : (fieldPlace ⟨b, o, none⟩ f).run P w = .ok ⟨b, o + c, none⟩ w := by
 unfold fieldPlace; simp only [Sem.run_bind, Jat h w, Result.andThen_ok]
 rw [if_neg (by omega), Sem.run_pure, Jbd, d]
theorem Jmh {s : TypeId} {c : List (Nat × TypeId)} (h : tfld P s = some c) : ∃ b : Array Field, P.underlying s = some (.struct b) /\ c = b.toList.map λ f => (f.offset, f.type) := by
 unfold tfld at h
 split at h
 . rename_i b d; exact ⟨b, d, by simpa using h.symm⟩
 . cases h
theorem JbJ {t e : TypeId} (h : tel P t = some e) : P.underlying t = some (.slice e) := by
 unfold tel at h; split at h
 . rename_i b; simp at h; subst h; exact b
 . cases h
theorem JdV {t e : TypeId} {n : Nat} (h : tarr P t = some (n, e)) : P.underlying t = some (.array n e) := by
 unfold tarr at h; split at h
 . rename_i b; simp at h; obtain ⟨rfl, rfl⟩ := h; exact b
 . cases h
theorem JvZ {t : TypeId} {k : IntKind} (h : tint P t = some k) : P.underlying t = some (.int k) := by
 unfold tint at h; split at h
 . rename_i b; simp at h; subst h; exact b
 . cases h
theorem JjA {t : TypeId} (h : tstr P t = true) : P.underlying t = some .string := by
 unfold tstr at h; split at h
 . rename_i b; exact b
 . cases h
theorem Rep.pt_inv {e : AV} {j : Nat} {y : Value} (h : Rep w ρ Im (.pt e j) y) : ∃ b o, y = .pointer (some ⟨b, o + j, none⟩) /\ ∀ c, Rep w ρ Im (.pt e c) (.pointer (some ⟨b, o + c, none⟩)) := by
 cases h with
 | im _ _ h => cases h with | pt _ _ b o f d i k => exact ⟨b, o, rfl, λ c => .im _ _ (.pt e c b o f d i k)⟩
theorem Rep.ptr_inv {id sz i j : Nat} {y : Value} (h : Rep w ρ Im (.ptr id sz i j) y) : ∃ b, y = .pointer (some ⟨b, i * sz + j, none⟩) /\ ∀ c d, Rep w ρ Im (.ptr id sz c d) (.pointer (some ⟨b, c * sz + d, none⟩)) := by
 cases h with
 | im _ _ h => cases h
 | ptr _ _ _ _ b f k => exact ⟨b, rfl, λ c d => .ptr id sz c d b f k⟩
theorem Jcn {k : IntKind} {n : Int} (w : World) : (asIntOf (.int k n)).run P w = .ok (k, n) w := rfl
theorem Jmb {t e : TypeId} {x r : AV} {k : IntKind} {n : Int} {y : Value} (C : tel P t = some e) (h : Jrl P e x n r) (s : Rep w ρ Im x y) :
 ∃ z, (Instr.indexAt t y (.int k n)).run P w = .ok z w /\ Rep w ρ Im r z := by
 have C := JbJ C; unfold Jrl at h
 split at h
 . rename_i sz es; obtain ⟨J, l, D, c, F, rfl⟩ := h; have q := (L0a.1 F).1
   cases s with
   | im _ _ s =>
    cases s with
    | slnil => simp at q
    | sl _ _ b o d f E u S I A =>
     refine ⟨.pointer (some ⟨b, o + n.toNat * sz, none⟩), ?_, ?_⟩
     . simp only [Instr.indexAt, Sem.run_bind, Jcn, Result.andThen_ok, run_underlying C w, Sem.run_pure]
       rw [if_pos ⟨D, by omega⟩]
       simp only [Sem.run_bind, Jat (l ▸ J : 0 < tsz P e) w, Result.andThen_ok, Sem.run_pure, Jbd, l]
     . have Q := S c (L02 F)
       exact .im _ _ (.pt c 0 b (o + n.toNat * sz) (f n.toNat) E (λ i R => I _ _ q (by omega)) (λ i L H => A _ c i L F H))
 . rename_i id sz o m; obtain ⟨J, l, D, q, rfl⟩ := h
   have K : ∀ b d (B : Option Addr), ρ id = some b -> B = some ⟨b, o * sz, none⟩ -> y = .slice B m d -> ∃ z, (Instr.indexAt t y (.int k n)).run P w = .ok z w /\ Rep w ρ Im (.ptr id sz (o + n.toNat) 0) z := by
    rintro b d _ p rfl rfl
    refine ⟨.pointer (some ⟨b, (o + n.toNat) * sz + 0, none⟩), ?_, .ptr id sz _ _ b p (by omega)⟩
    simp only [Instr.indexAt, Sem.run_bind, Jcn, Result.andThen_ok, run_underlying C w, Sem.run_pure]
    rw [if_pos ⟨D, by omega⟩]
    simp only [Sem.run_bind, Jat (l ▸ J : 0 < tsz P e) w, Result.andThen_ok, Sem.run_pure, Jbd, l, L1r, L0R]
   cases s with
   | im _ _ s => cases s
   | ownNil => omega
   | own _ _ _ b d M U p T u V W _ => exact K b d _ p (by simp) rfl
   | ownAt _ _ _ _ b d B R p T O _ => exact K b d B p (O (by omega)) rfl
 . exact h.elim
theorem Jn9 {x : AV} {n : Nat} {y : Value} (h : lenV x = some n) (b : Rep w ρ Im x y) : (∃ c cap, y = .slice c n cap) \/ ∃ s : ByteArray, y = .string s /\ s.size = n /\ x = .v (.string s) := by
 unfold lenV at h
 split at h
 . simp at h; subst h
   cases b with
   | im _ _ b =>
    cases b with
    | slnil sz c cap => exact .inl ⟨c, cap, rfl⟩
    | sl => exact .inl ⟨_, _, rfl⟩
 . simp at h; subst h
   cases b with
   | im _ _ b => cases b
   | ownNil => exact .inl ⟨_, _, rfl⟩
   | own => exact .inl ⟨_, _, rfl⟩
   | ownAt => exact .inl ⟨_, _, rfl⟩
 . rename_i s; simp at h; have := b.v_inv; subst this; exact .inr ⟨s, rfl, h, rfl⟩
 . simp at h; subst h; have := b.v_inv; subst this; exact .inl ⟨_, _, rfl⟩
 . cases h
theorem JeI {e : TypeId} {x r : AV} {lo hi : Nat} {y : Value} (h : JoC P e x lo hi r) (A : Rep w ρ Im x y) :
 ∃ q n cap, y = .slice q n cap /\ lenV x = some n /\ lo <= hi /\ hi <= n /\ n <= cap /\ 0 < tsz P e /\ Rep w ρ Im r (.slice (if cap = lo then q else q.map (·.add (lo * tsz P e))) (hi - lo) (cap - lo)) := by
 unfold JoC at h
 split at h
 . rename_i sz es; obtain ⟨z, d, t, u, rfl⟩ := h
   cases A with
   | im _ _ A =>
    cases A with
    | slnil _ q cap =>
     simp at u; subst u; simp at t; subst t
     exact ⟨q, 0, cap, rfl, rfl, L09 _, L09 _, L17 _, d ▸ z, .im _ _ (.slnil ..)⟩
    | sl _ _ b o cap f F l S H C =>
     refine ⟨_, es.length, cap, rfl, rfl, t, u, l, d ▸ z, ?_⟩
     by_cases hh : hi = lo
     . subst hh; simp; exact .im _ _ (.slnil ..)
     . rw [if_neg (by omega)]
       have p : ((es.drop lo).take (hi - lo)).length = hi - lo := by rw [L01, L0g]; omega
       have := IRep.sl (w := w) (Im := Im) sz ((es.drop lo).take (hi - lo)) b (o + lo * sz) (cap - lo) (λ i j => f (lo + i) j) F (by rw [p]; omega) (λ e s => S e (L16 (L0J s)))
        (λ i j B R => by
         rw [p] at B
         have := H (lo + i) j (by omega) R
         rw [show o + lo * sz + i * sz + j = o + (lo + i) * sz + j from by rw [L1r]; omega]
         exact this)
        (λ i E j c s Q => by
         rw [L0j] at s
         split at s
         . rw [L0D] at s; exact C _ E j c s Q
         . cases s)
       rw [p] at this
       simpa [Jbd, d] using Rep.im (ρ := ρ) _ _ this
 . rename_i id sz o n; obtain ⟨z, d, t, u, rfl⟩ := h
   cases A with
   | im _ _ A => cases A
   | ownNil _ _ k =>
    have K : hi = 0 := by omega
    have L : lo = 0 := by omega
    subst K; subst L
    exact ⟨none, 0, 0, rfl, rfl, L09 _, L09 _, L09 _, d ▸ z, by simpa using Rep.ownNil id sz k⟩
   | own _ _ _ b cap D E k I l O T =>
    refine ⟨_, n, cap, rfl, rfl, t, u, I, d ▸ z, ?_⟩
    by_cases hlo : lo = 0
    . subst hlo; simp only [Nat.zero_mul, L0R, L11]
      have : (if cap = 0 then some (⟨b, 0, none⟩ : Addr) else (some (⟨b, 0, none⟩ : Addr)).map (·.add 0)) = some ⟨b, 0, none⟩ := by split <;> simp [Addr.add]
      rw [this]
      exact .own id sz hi b cap D E k (by omega) l O T (by omega)
    . refine .ownAt id sz (0 + lo) (hi - lo) b (cap - lo) _ (by omega) k (by omega) (λ J => ?_) (by omega)
      rw [if_neg (by omega)]; simp [Jbd, d]
   | ownAt _ _ _ _ b cap q B k I M =>
    refine ⟨q, n, cap, rfl, rfl, t, u, I, d ▸ z, .ownAt id sz (o + lo) (hi - lo) b (cap - lo) _ (by omega) k (by omega) (λ J => ?_) (by omega)⟩
    rw [if_neg (by omega), M (by omega)]; simp [Jbd, d, L1r]
 . exact h.elim
theorem Ja1 {x : Option Operand} {b : Nat} {K : Nat -> Prop} (h : bound E x b K) (i : ∀ o, x = some o -> Rep w ρ Im (ev E o) (a.eval o)) :
 ∃ n, K n /\ ((x = none /\ n = b) \/ ∃ o k, x = some o /\ a.eval o = .int k (n : Int)) := by
 unfold bound at h
 split at h
 . exact ⟨b, h, .inl ⟨rfl, rfl⟩⟩
 . rename_i o
   split at h
   . rename_i k n f; obtain ⟨c, d⟩ := h
     have := i o rfl
     rw [f] at this
     exact ⟨n.toNat, d, .inr ⟨o, k, rfl, by rw [this.v_inv, L22 c]⟩⟩
   . exact h.elim
theorem Jal {k : IntKind} {n m : Nat} {code : BoundsCode} (h : n <= m) (w : World) : (Instr.sliceBound (.int k (n : Int)) m code).run P w = .ok n w := by
 simp only [Instr.sliceBound, Sem.run_bind, Jcn, Result.andThen_ok]
 rw [if_pos ⟨by omega, by omega⟩]; simp
variable {P : Program} {w : World} {ρ : Nat -> Option Nat} {Im : Nat -> Prop} {E : Env} {σ : Jac} {a : Act}
theorem Jr9 {v : AV} {y : Value} (h : v.atom = true) (c : Rep w ρ Im v y) : y.oneCell' = true := by
 cases v with
 | v x => rw [c.v_inv]; exact h
 | any => simp [AV.atom] at h
 | agg => simp [AV.atom] at h
 | new => simp [AV.atom] at h
 | nptr => simp [AV.atom] at h
 | yld => simp [AV.atom] at h
 | tup => simp [AV.atom] at h
 | cut => simp [AV.atom] at h
 | sl => cases c with | im _ _ c => cases c <;> rfl
 | pt => cases c with | im _ _ c => cases c <;> rfl
 | own => cases c with
  | im _ _ c => cases c
  | _ => rfl
 | ptr => cases c with
  | im _ _ c => cases c
  | _ => rfl
 | mp => cases c with | im _ _ c => cases c <;> rfl
 | mref => cases c with
  | im _ _ c => cases c
  | _ => rfl
 | clo => obtain ⟨ys, rfl, _⟩ := c.clo_inv; obtain ⟨a, b, e⟩ := Ji9 _ ys; rw [e]; rfl
theorem JdG {v : AV} {y : Value} (h : v.ok = true) (i : Rep w ρ Im v y) : ∃ ys : List Value, y.cells = ys.toArray /\ Reps w ρ Im v.cells ys /\ ∀ z ∈ ys, z.oneCell' = true := by
 have b : v.atom = true -> v.cells = [v] -> ∃ ys : List Value, y.cells = ys.toArray /\ Reps w ρ Im v.cells ys /\ ∀ z ∈ ys, z.oneCell' = true := λ o k => by
  have d := Jr9 o i
  refine ⟨[y], ?_, ⟨by rw [k]; rfl, λ j c z f l => ?_⟩, by simpa using d⟩
  . cases y <;> first | rfl | (simp [Value.oneCell'] at d)
  . rw [k] at f
    cases j with
    | zero => simp at f l; subst f; subst l; exact i
    | succ j => simp at f
 cases v with
 | agg s =>
  obtain ⟨ys, rfl, q, d, p⟩ := i.agg_inv
  exact ⟨ys, rfl, ⟨q, p⟩, d⟩
 | _ => exact b h rfl
theorem Jix (b : Nat) : ∀ (l : List Value) (i : Nat) (cells : Array Value), b + i + l.length <= cells.size -> ∀ k,
 ((l.zipIdx i).foldl (λ (cs : Array Value) (x : Value × Nat) => cs.setIfInBounds (b + x.2) x.1) cells)[k]? = if b + i <= k /\ k < b + i + l.length then l[k - (b + i)]? else cells[k]?
 | [], i, cells, _, k => by simp; intro c d; omega
 | x :: l, i, cells, h, k => by
  simp only [List.zipIdx_cons, L1m, L0e] at h ⊢
  rw [Jix b l (i + 1) (cells.setIfInBounds (b + i) x) (by rw [Array.size_setIfInBounds]; omega) k]
  by_cases c : b + (i + 1) <= k /\ k < b + (i + 1) + l.length
  . rw [if_pos c, if_pos (by omega), show k - (b + i) = (k - (b + (i + 1))) + 1 from by omega]; simp
  . rw [if_neg c]
    by_cases d : k = b + i
    . subst d; rw [if_pos (by omega), L2m (by omega)]; simp
    . rw [if_neg (by omega), L1n (by omega)]
def JoT (w : World) (ρ : Nat -> Option Nat) (Im : Nat -> Prop) : List (Nat × AV) -> List (Nat × Value) -> Prop
 | [], [] => True
 | (i, v) :: r, (j, y) :: s => i = j /\ Rep w ρ Im v y /\ JoT w ρ Im r s
 | _, _ => False
theorem Jd1 {f : Nat -> Option (Nat × Nat)} : ∀ (S : List (Nat × AV)) (T : List (Nat × Value)) (cs h : List AV) (ys : List Value), JoT w ρ Im S T -> Jdy f cs S = some h ->
 Reps w ρ Im cs ys -> (∀ y ∈ ys, y.oneCell' = true) -> ∃ o : List Value, Instr.fill f ys.toArray T = some o.toArray /\ Reps w ρ Im h o /\ ∀ y ∈ o, y.oneCell' = true
 | [], [], cs, h, ys, _, p, E, H => by simp [Jdy] at p; subst p; exact ⟨ys, rfl, E, H⟩
 | [], _ :: _, _, _, _, B, _, _, _ => by simp [JoT] at B
 | _ :: _, [], _, _, _, B, _, _, _ => by simp [JoT] at B
 | (i, v) :: r, (j, y) :: s, cs, h, ys, B, p, E, H => by
  obtain ⟨rfl, W, B⟩ := B; simp only [Jdy] at p
  cases hpl : f i with
  | none => simp [hpl] at p
  | some q =>
   obtain ⟨b, size⟩ := q; simp only [hpl] at p
   split at p
   . rename_i U; obtain ⟨J, V, L⟩ := U
     obtain ⟨t, R, F, Q⟩ := JdG L W
     have C : t.length = size := by rw [<- F.1]; exact J
     have P : ys.length = cs.length := E.1.symm
     have D : (y.cells.zipIdx.foldl (λ cs (x : Value × Nat) => cs.setIfInBounds (b + x.2) x.1) ys.toArray) = (ys.take b ++ t ++ ys.drop (b + size)).toArray := by
      rw [R]
      have A : (t.toArray.zipIdx.foldl (λ (cs : Array Value) (x : Value × Nat) => cs.setIfInBounds (b + x.2) x.1) ys.toArray) = ((t.zipIdx 0).foldl (λ (cs : Array Value) (x : Value × Nat) => cs.setIfInBounds (b + x.2) x.1) ys.toArray) := by simp
      rw [A]
      apply Array.ext_getElem?
      intro k
      rw [Jix b t 0 _ (by simp; omega)]
      simp only [L0R, L1g]
      by_cases l : b <= k /\ k < b + t.length
      . rw [if_pos l, L0k (by simp; omega), L0o (by simp; omega)]
        simp [L01, L0N (show b <= ys.length by omega)]
      . rw [if_neg l]
        by_cases hk2 : k < b
        . rw [L0E, L0k (by simp; omega), L0j, if_pos hk2]
        . rw [L0o (by simp; omega), L0D]
          congr 1; simp [L0N (show b <= ys.length by omega)]; omega
     have X : Reps w ρ Im (cs.take b ++ v.cells ++ cs.drop (b + size)) (ys.take b ++ t ++ ys.drop (b + size)) := by
      refine ⟨by simp [J, C, P], λ k c z l d => ?_⟩
      by_cases hk1 : k < b
      . rw [L0E, L0k (by simp; omega), L0j, if_pos hk1] at l d
        exact E.2 k c z l d
      . by_cases hk2 : k < b + size
        . rw [L0k (by simp; omega), L0o (by simp; omega)] at l d
          simp only [L01, L0N (show b <= cs.length by omega)] at l
          simp only [L01, L0N (show b <= ys.length by omega)] at d
          exact F.2 _ c z l d
        . rw [L0o (by simp; omega), L0D] at l d
          simp only [L0b, L01, L0N (show b <= cs.length by omega), J] at l
          simp only [L0b, L01, L0N (show b <= ys.length by omega), C] at d
          exact E.2 _ c z l d
     have Z : ∀ z ∈ ys.take b ++ t ++ ys.drop (b + size), z.oneCell' = true := by
      intro z d
      simp only [L0t] at d
      rcases d with (d | d) | d
      . exact H z (L0J d)
      . exact Q z d
      . exact H z (L16 d)
     obtain ⟨o, u, M, I⟩ := Jd1 r s _ h _ B p X Z
     refine ⟨o, ?_, M, I⟩
     have O : y.cells.size = size := by rw [R]; simpa using C
     have K : ¬ (b + size > ys.toArray.size) := by simp; omega
     simp only [Instr.fill, hpl, O, ne_eq, not_true_eq_false, decide_false, L1F, K, L0C, if_false]
     rw [D]; exact u
   . cases p
theorem Jtw {t : TypeId} {z : Value} (h : tz P t = some z) : ∃ i, P.info? t = some i /\ i.zero = some z /\ i.size = tsz P t /\ i.bytes = tby P t := by
 unfold tz at h
 cases hi : P.info? t with
 | none => simp [hi] at h
 | some i => simp [hi] at h; exact ⟨i, rfl, h, by simp [tsz, hi], by simp [tby, hi]⟩
theorem JcO {t : TypeId} {z : Value} (h : tz P t = some z) (w : World) : (zeroValue t).run P w = .ok z w := by
 obtain ⟨i, b, c, _⟩ := Jtw h
 simp [zeroValue, typeInfo, b, c]
theorem Value.cells_ofC {z : Value} (h : (ofC z).ok = true) : ∃ ys : List Value, z.cells = ys.toArray /\ (ofC z).cells.length = ys.length /\ (∀ y ∈ ys, y.oneCell' = true) /\ ∀ (w : World) (ρ : Nat -> Option Nat) (Im : Nat -> Prop), Reps w ρ Im (ofC z).cells ys := by
 obtain ⟨ys, f, i, k⟩ := JdG (w := default) (ρ := λ _ => none) (Im := λ _ => False) h (JeB z)
 refine ⟨ys, f, i.1, k, λ w ρ Im => ?_⟩
 obtain ⟨d, b, c, _⟩ := JdG (w := w) (ρ := ρ) (Im := Im) h (JeB z)
 rw [f] at b
 have : ys = d := by simpa using b
 rw [this]; exact c
theorem Jjd (h : JaK w ρ Im E a.tmps) : ∀ (l : List (Nat × Operand)), (∀ p ∈ l, Operand.low a.tmps.size p.2 = true) -> JoT w ρ Im (l.map λ p => (p.1, ev E p.2)) (l.map λ p => (p.1, a.eval p.2))
 | [], _ => trivial
 | p :: l, b => ⟨rfl, Jb8 h (b p (by simp)), Jjd h l λ q c => b q (by simp [c])⟩
theorem JdW {t : TypeId} {k : Nat} (h : tkind P t = some k) : (k = 0 /\ ∃ q, P.underlying t = some (.int q)) \/ (k = 1 /\ P.underlying t = some .bool) \/ (k = 2 /\ P.underlying t = some .string) := by
 unfold tkind at h
 split at h
 . rename_i q b; simp at h; exact .inl ⟨h.symm, q, b⟩
 . rename_i b; simp at h; exact .inr (.inl ⟨h.symm, b⟩)
 . rename_i b; simp at h; exact .inr (.inr ⟨h.symm, b⟩)
 . cases h
theorem Jdo {t : TypeId} {xs : List Value} {i : Nat} {y : Value} (b : (isAgg t).run P w = .ok false w) (h : xs[i]? = some y) : (part t xs.toArray i).run P w = .ok y w := by
 simp only [part, Sem.run_bind, b, Result.andThen_ok, L0C, if_false]
 simp [h]
theorem JjZ (d : Nat) : ∀ (Q : List Field) (i : Nat) (ks : List Nat) (cs y : List AV) (b : Bool) (xs ys : List Value), Jck P i Q = some ks -> eqK ks (cs.drop i) (y.drop i) = some b ->
 Reps w ρ Im cs xs -> Reps w ρ Im y ys -> (Op.eqFields (d + 1) xs.toArray ys.toArray Q).run P w = .ok b w
 | [], i, ks, cs, y, b, xs, ys, I, h, _, _ => by
  simp [Jck] at I; subst I
  unfold eqK at h
  split at h <;> simp_all [Op.eqFields]
 | f :: Q, i, ks, cs, y, b, xs, ys, I, h, X, Z => by
  simp only [Jck] at I
  split at I
  . rename_i hf; simp only [L00, bne_iff_ne, ne_eq, beq_iff_eq] at hf; obtain ⟨O, T⟩ := hf
    cases M : tkind P f.type with
    | none => simp [M] at I
    | some k =>
     simp only [M, Option.bind_some, L0h] at I; obtain ⟨U, aa, rfl⟩ := I
     -- the heads
     have p : ∀ (K : List AV) (us : List Value), Reps w ρ Im K us -> ∀ c r, K.drop i = c :: r -> ∃ u, us[i]? = some u /\ Rep w ρ Im c u /\ K.drop (i + 1) = r := λ K us hr c r hd => by
      have hc : K[i]? = some c := by have := L0D (xs := K) (i := i) (j := 0); rw [hd] at this; simpa using this.symm
      have S : i < us.length := by rw [<- hr.1]; exact (L0a.1 hc).1
      exact ⟨us[i], L08 S, hr.2 i c _ hc (L08 S), by rw [show K.drop (i + 1) = (K.drop i).drop 1 from by rw [L1P], hd]; rfl⟩
     have L : ∀ (u v : Value) (q : Bool) (r s : List AV) (H : Bool), xs[i]? = some u -> ys[i]? = some v -> (isAgg f.type).run P w = .ok false w -> (Op.equalIn (d + 1) f.type u v).run P w = .ok q w ->
      cs.drop (i + 1) = r -> y.drop (i + 1) = s -> eqK U r s = some H -> b = (q && H) -> (Op.eqFields (d + 1) xs.toArray ys.toArray (f :: Q)).run P w = .ok b w := by
      rintro u v q r s H z hv ha hq rfl rfl t rfl
      have ih := JjZ d Q (i + 1) U cs y H xs ys aa t X Z; simp only [Op.eqFields, ne_eq, O, not_false_eq_true, if_true, Sem.run_bind, T, Jdo ha z, Jdo ha hv, Result.andThen_ok, hq]
      cases q
      . simp
      . simpa using ih
     have agg : ∀ W, P.underlying f.type = some W -> (match W with | .struct _ => False | .array _ _ => False | _ => True) -> (isAgg f.type).run P w = .ok false w := λ W z hd => by
      unfold isAgg; rw [Sem.run_bind, run_underlying z w]; cases W <;> simp_all
     rcases JdW M with ⟨rfl, q, z⟩ | ⟨rfl, z⟩ | ⟨rfl, z⟩
     . generalize A : cs.drop i = zc at h; generalize B : y.drop i = zd at h; unfold eqK at h
       split at h
       . simp_all
       . rename_i V k1 m r k2 n s J 
         simp only [List.cons.injEq, true_and] at J; subst J
         split at h
         . rename_i R; subst R
           simp only [L0h] at h; obtain ⟨H, t, rfl⟩ := h
           obtain ⟨u, C, l, D⟩ := p cs xs X _ _ A
           obtain ⟨v, E, o, F⟩ := p y ys Z _ _ B
           have l := l.v_inv; have o := o.v_inv
           subst l; subst o
           exact L _ _ _ r s H C E (agg _ z trivial) (run_equalIn_int w d f.type k1 q m n z) D F t rfl
         . cases h
       . simp_all
       . simp_all
       . cases h
     . generalize A : cs.drop i = zc at h; generalize B : y.drop i = zd at h; unfold eqK at h
       split at h
       . simp_all
       . simp_all
       . rename_i V m r n s J
         simp only [List.cons.injEq, true_and] at J; subst J
         simp only [L0h] at h; obtain ⟨H, t, rfl⟩ := h
         obtain ⟨u, C, l, D⟩ := p cs xs X _ _ A
         obtain ⟨v, E, o, F⟩ := p y ys Z _ _ B
         have l := l.v_inv; have o := o.v_inv
         subst l; subst o
         exact L _ _ _ r s H C E (agg _ z trivial) (run_equalIn_bool' w d f.type m n z) D F t rfl
       . simp_all
       . cases h
     . generalize A : cs.drop i = zc at h; generalize B : y.drop i = zd at h; unfold eqK at h
       split at h
       . simp_all
       . simp_all
       . simp_all
       . rename_i V m r n s J
         simp only [List.cons.injEq, true_and] at J; subst J
         simp only [L0h] at h; obtain ⟨H, t, rfl⟩ := h
         obtain ⟨u, C, l, D⟩ := p cs xs X _ _ A
         obtain ⟨v, E, o, F⟩ := p y ys Z _ _ B
         have l := l.v_inv; have o := o.v_inv
         subst l; subst o
         exact L _ _ _ r s H C E (agg _ z trivial) (run_equalIn_string w d f.type m n z) D F t rfl
       . cases h
  . cases I
theorem Jg3 : ∀ (c i : List Nat) (cs l : List AV) (b : Bool), eqK (c ++ i) cs l = some b -> ∃ d f, eqK c (cs.take c.length) (l.take c.length) = some d /\ eqK i (cs.drop c.length) (l.drop c.length) = some f /\ b = (d && f) /\ c.length <= cs.length /\ c.length <= l.length
 | [], i, cs, l, b, h => ⟨true, b, by simp [eqK], by simpa using h, by simp, by simp, by simp⟩
 | k :: c, i, cs, l, b, h => by
  rw [L0L] at h; unfold eqK at h
  split at h
  . simp_all
  . rename_i z C a r B o s e; simp only [List.cons.injEq] at e; obtain ⟨rfl, rfl⟩ := e
    split at h
    . rename_i A; simp only [L0h] at h; obtain ⟨p, y, rfl⟩ := h
      obtain ⟨d, f, q, t, rfl, u, w⟩ := Jg3 c i r s p y
      exact ⟨(a == o) && d, f, by simp [eqK, A, q], by simpa using t, by simp [L1o], by simpa using u, by simpa using w⟩
    . cases h
  . rename_i z a r o s e; simp only [List.cons.injEq] at e; obtain ⟨rfl, rfl⟩ := e; simp only [L0h] at h; obtain ⟨p, y, rfl⟩ := h
    obtain ⟨d, f, q, t, rfl, u, w⟩ := Jg3 c i r s p y
    exact ⟨(a == o) && d, f, by simp [eqK, q], by simpa using t, by simp [L1o], by simpa using u, by simpa using w⟩
  . rename_i z a r o s e; simp only [List.cons.injEq] at e; obtain ⟨rfl, rfl⟩ := e; simp only [L0h] at h; obtain ⟨p, y, rfl⟩ := h
    obtain ⟨d, f, q, t, rfl, u, w⟩ := Jg3 c i r s p y
    exact ⟨(a.toList == o.toList) && d, f, by simp [eqK, q], by simpa using t, by simp [L1o], by simpa using u, by simpa using w⟩
  . cases h
section
variable {P : Program} {w : World}
theorem Jm9 {t : TypeId} {xs : List Value} {i : Nat} (c : (isAgg t).run P w = .ok true w) (b : 0 < tsz P t) (d : i + tsz P t <= xs.length) : (part t xs.toArray i).run P w = .ok (.agg ((xs.drop i).take (tsz P t)).toArray) w := by
 simp only [part, Sem.run_bind, c, Result.andThen_ok, if_true, Jat b, Sem.run_pure]
 congr 2
 apply L12.1
 simp [Nat.add_sub_cancel_left]
end
section
variable {P : Program} {w : World} {ρ : Nat -> Option Nat} {Im : Nat -> Prop}
theorem Reps.cut {cs : List AV} {xs : List Value} (h : Reps w ρ Im cs xs) (i n : Nat) : Reps w ρ Im ((cs.drop i).take n) ((xs.drop i).take n) :=
 ⟨by simp [h.1], λ j c y b d => by
  have f : j < n := by have := (L0a.1 b).1; simp at this; omega
  rw [L0j, if_pos f, L0D] at b d
  exact h.2 _ c y b d⟩
theorem JCW {t : TypeId} {k : Nat} {c B : AV} {b : Bool} {u v : Value} (A : tkind P t = some k) (i : eqK [k] [c] [B] = some b) (l : Rep w ρ Im c u) (o : Rep w ρ Im B v) (d : Nat) : (isAgg t).run P w = .ok false w /\ (Op.equalIn (d + 1) t u v).run P w = .ok b w := by
 have agg : ∀ z, P.underlying t = some z -> (match z with | .struct _ => False | .array _ _ => False | _ => True) -> (isAgg t).run P w = .ok false w := λ z l D => by
  unfold isAgg; rw [Sem.run_bind, run_underlying l w]; cases z <;> simp_all
 unfold eqK at i
 split at i
 . simp_all
 . rename_i p s y; simp only [List.cons.injEq] at p s y; obtain ⟨rfl, rfl⟩ := p; obtain ⟨rfl, rfl⟩ := s; obtain ⟨rfl, rfl⟩ := y
   split at i
   . rename_i C; subst C
     simp [eqK] at i
     subst i
     have l := l.v_inv; have o := o.v_inv
     subst l; subst o
     rcases JdW A with ⟨_, q, f⟩ | ⟨h, _⟩ | ⟨h, _⟩
     . exact ⟨agg _ f trivial, run_equalIn_int w d t _ q _ _ f⟩
     . cases h
     . cases h
   . cases i
 . rename_i p s y; simp only [List.cons.injEq] at p s y; obtain ⟨rfl, rfl⟩ := p; obtain ⟨rfl, rfl⟩ := s; obtain ⟨rfl, rfl⟩ := y
   simp [eqK] at i
   subst i
   have l := l.v_inv; have o := o.v_inv
   subst l; subst o
   rcases JdW A with ⟨h, _⟩ | ⟨_, f⟩ | ⟨h, _⟩
   . cases h
   . exact ⟨agg _ f trivial, run_equalIn_bool' w d t _ _ f⟩
   . cases h
 . rename_i p s y; simp only [List.cons.injEq] at p s y; obtain ⟨rfl, rfl⟩ := p; obtain ⟨rfl, rfl⟩ := s; obtain ⟨rfl, rfl⟩ := y
   simp [eqK] at i
   subst i
   have l := l.v_inv; have o := o.v_inv
   subst l; subst o
   rcases JdW A with ⟨h, _⟩ | ⟨h, _⟩ | ⟨_, f⟩
   . cases h
   . cases h
   . exact ⟨agg _ f trivial, run_equalIn_string w d t _ _ f⟩
 . cases i
theorem Jfx (d : Nat) : ∀ (B : List Field) (i : Nat) (K : List Nat) (cs p : List AV) (b : Bool) (xs ys : List Value), JbF P i B = some K -> eqK K (cs.drop i) (p.drop i) = some b ->
 Reps w ρ Im cs xs -> Reps w ρ Im p ys -> (Op.eqFields (d + 2) xs.toArray ys.toArray B).run P w = .ok b w
 | [], i, K, cs, p, b, xs, ys, c, E, _, _ => by
  simp [JbF] at c; subst c
  unfold eqK at E
  split at E <;> simp_all [Op.eqFields]
 | f :: B, i, K, cs, p, b, xs, ys, c, E, y, z => by
  simp only [JbF] at c
  split at c
  . rename_i U; have ab := U; simp only [L00, bne_iff_ne, ne_eq, beq_iff_eq] at U; obtain ⟨l, q⟩ := U
    cases hkk : tkind P f.type with
    | some k =>
     simp only [hkk, L0h] at c; obtain ⟨o, s, rfl⟩ := c
     obtain ⟨A, L, C, u, rfl, O, Q⟩ := Jg3 [k] o _ _ b E
     rw [L18, L1P] at u; rw [L18] at C; rw [L1P] at u; have ih := Jfx d B (i + 1) o cs p L xs ys s u y z; rw [L18, L0g] at O Q
     have R : cs[i]? = some cs[i] := L08 (by omega)
     have S : p[i]? = some p[i] := L08 (by omega)
     have I : xs[i]? = some (xs[i]'(by have := y.1; omega)) := L08 _
     have J : ys[i]? = some (ys[i]'(by have := z.1; omega)) := L08 _
     rw [L23 (show i < cs.length by omega), L23 (show i < p.length by omega), List.take_succ_cons, List.take_succ_cons, L1G, L1G] at C
     obtain ⟨ha, hq⟩ := JCW hkk C (y.2 i _ _ R I) (z.2 i _ _ S J) (d + 1)
     simp only [Op.eqFields, ne_eq, l, not_false_eq_true, if_true, Sem.run_bind, q, Jdo ha I, Jdo ha J, Result.andThen_ok, hq]
     cases A
     . simp
     . simpa using ih
    | none =>
     simp only [hkk] at c
     split at c
     . rename_i M W
       split at c
       . cases c
       . rename_i V
         cases hk1 : Jck P 0 M.toList with
         | none => simp [hk1] at c
         | some h =>
          simp only [hk1, Option.bind_some] at c
          split at c
          . rename_i t; simp only [L0h] at c; obtain ⟨o, s, rfl⟩ := c
            obtain ⟨A, L, C, u, rfl, O, Q⟩ := Jg3 h o _ _ b E
            rw [L1P, L1P] at u; have ih := Jfx d B (i + h.length) o cs p L xs ys s u y z
            have F : P.fieldsOf f.type = M := by simp [Program.fieldsOf, W]
            have X : P.underlying f.type = some (.struct (P.fieldsOf f.type)) := by rw [F]; exact W
            have D : (isAgg f.type).run P w = .ok true w := by unfold isAgg; rw [Sem.run_bind, run_underlying W w]; simp
            have Z : i + tsz P f.type <= xs.length := by rw [<- y.1, <- t.1]; rw [L0g] at O; have := t.2; omega
            have aa : i + tsz P f.type <= ys.length := by rw [<- z.1, <- t.1]; rw [L0g] at Q; have := t.2; omega
            have H := JjZ (P := P) (w := w) (ρ := ρ) (Im := Im) d M.toList 0 h ((cs.drop i).take h.length) ((p.drop i).take h.length) A ((xs.drop i).take h.length) ((ys.drop i).take h.length) hk1 (by simpa using C) (y.cut i _) (z.cut i _)
            have T : (Op.equalIn (d + 2) f.type (.agg ((xs.drop i).take (tsz P f.type)).toArray) (.agg ((ys.drop i).take (tsz P f.type)).toArray)).run P w = .ok A w := by
             rw [show d + 2 = (d + 1) + 1 from rfl, run_equalIn_agg w (d + 1) f.type _ _ X (by simpa using V), F, <- t.1]
             exact H
            simp only [Op.eqFields, ne_eq, l, not_false_eq_true, if_true, Sem.run_bind, q, Jm9 D t.2 Z, Jm9 D t.2 aa, Result.andThen_ok, T]
            cases A
            . simp
            . simpa using ih
          . cases c
     . cases c
  . cases c
theorem Jzr {t : TypeId} {d : List Nat} (h : teq P t = some d) : P.underlying t = some (.struct (P.fieldsOf t)) /\ P.stoodInHeld t = false /\ P.eqGuardType P.depth t = false /\ JbF P 0 (P.fieldsOf t).toList = some d := by
 unfold teq at h
 split at h
 . rename_i f c
   split at h
   . cases h
   . rename_i b; simp only [L0O, not_or, Bool.not_eq_true] at b
     have i : P.fieldsOf t = f := by simp [Program.fieldsOf, c]
     rw [i]; exact ⟨c, b.1, b.2, h⟩
 . cases h
theorem Jk0 {t : TypeId} {d : List Nat} {cs c : List AV} {b : Bool} {xs ys : List Value} (h : teq P t = some d) (l : eqK d cs c = some b) (u : Reps w ρ Im cs xs) (y : Reps w ρ Im c ys) (op : BinOp) (i k : Operand) :
 (eqGuard op t i k (.agg xs.toArray) (.agg ys.toArray)).run P w = .ok () w /\ (binOp .eql t (.agg xs.toArray) (.agg ys.toArray)).run P w = .ok (.bool b) w /\ (binOp .neq t (.agg xs.toArray) (.agg ys.toArray)).run P w = .ok (.bool (!b)) w := by
 obtain ⟨s, q, o, p⟩ := Jzr h
 have f : (Op.equalIn 10000 t (.agg xs.toArray) (.agg ys.toArray)).run P w = .ok b w := by
  rw [show (10000 : Nat) = 9999 + 1 from rfl, run_equalIn_agg w 9999 t _ _ s q]
  exact Jfx 9997 _ 0 d cs c b xs ys p (by simpa using l) u y
 exact ⟨run_eqGuard_agg w op t i k _ _ o, by rw [run_eql_struct, f]; rfl, by rw [run_neq_struct, f]; rfl⟩
end
variable {P : Program} {w : World} {ρ : Nat -> Option Nat} {Im : Nat -> Prop} {E : Env} {σ : Jac} {a : Act}
theorem Jrn {t e : TypeId} {x : Operand} {lo hi : Option Operand} {r : AV} {n : Nat} (u : tel P t = some e)
 (I : lenV (ev E x) = some n) (p : bound E hi n λ h => bound E lo 0 λ l => JoC P e (ev E x) l h r) (J : Rep w ρ Im (ev E x) (a.eval x))
 (q : ∀ o, hi = some o -> Rep w ρ Im (ev E o) (a.eval o)) (s : ∀ o, lo = some o -> Rep w ρ Im (ev E o) (a.eval o)) :
 ∃ y, (Instr.sliceAt t (a.eval x) (lo.map a.eval) (hi.map a.eval) none).run P w = .ok y w /\ Rep w ρ Im r y := by
 have u := JbJ u
 obtain ⟨h, p, F⟩ := Ja1 p q
 obtain ⟨l, c, H⟩ := Ja1 p s
 obtain ⟨M, Q, b, K, d, A, B, C, L, i⟩ := JeI c J
 rw [I] at d; cases d
 refine ⟨_, ?_, i⟩
 rw [K]
 have z : (Instr.sliceBounds true n b (lo.map a.eval) (hi.map a.eval) none).run P w = .ok (l, h, b) w := by
  unfold Instr.sliceBounds
  rcases F with ⟨rfl, rfl⟩ | ⟨o, k, rfl, D⟩ <;> rcases H with ⟨rfl, rfl⟩ | ⟨R, O, rfl, f⟩
  . simp
  . simp [f, Jal A]
  . simp [D, Jal (L0n B C)]
  . simp [D, f, Jal (L0n B C), Jal A]
 simp only [Instr.sliceAt, Instr.slice, Sem.run_bind, run_underlying u w, Result.andThen_ok, z, Jat L w, Sem.run_pure]
theorem JoE {t : TypeId} {x : Operand} {lo hi : Option Operand} {r : AV} {n : Nat} (q : tstr P t = true)
 (p : lenV (ev E x) = some n) (d : bound E hi n λ h => bound E lo 0 λ l => Jnk (ev E x) l h r) (C : Rep w ρ Im (ev E x) (a.eval x))
 (f : ∀ o, hi = some o -> Rep w ρ Im (ev E o) (a.eval o)) (i : ∀ o, lo = some o -> Rep w ρ Im (ev E o) (a.eval o)) :
 ∃ y, (Instr.sliceAt t (a.eval x) (lo.map a.eval) (hi.map a.eval) none).run P w = .ok y w /\ Rep w ρ Im r y := by
 have q := JjA q
 obtain ⟨h, d, F⟩ := Ja1 d f
 obtain ⟨l, b, H⟩ := Ja1 d i
 unfold Jnk at b
 split at b
 . rename_i s D; obtain ⟨z, A, rfl⟩ := b; rw [D] at C p; have I := C.v_inv
   simp [lenV] at p; subst p
   refine ⟨_, ?_, .im _ _ (.v _)⟩
   rw [I]
   have u : (Instr.sliceBounds false s.size s.size (lo.map a.eval) (hi.map a.eval) none).run P w = .ok (l, h, s.size) w := by
    unfold Instr.sliceBounds
    rcases F with ⟨rfl, rfl⟩ | ⟨o, k, rfl, B⟩ <;> rcases H with ⟨rfl, rfl⟩ | ⟨K, J, rfl, c⟩
    . simp
    . simp [c, Jal z]
    . simp [B, Jal A]
    . simp [B, c, Jal A, Jal z]
   simp [Instr.sliceAt, Instr.slice, Sem.run_bind, run_underlying q, u]
 . exact b.elim
theorem Jl0 (hinv : Inv w ρ Im σ) (henv : JaK w ρ Im E a.tmps) {o : Oper} (hlow : Op.low a.tmps.size o.op = true) {r : AV} (h : JaH P o.op E σ r) :
 ∃ y, (execOp a.eval o).run P w = .ok (.value y) w /\ Rep w ρ Im r y := by
 have rep : ∀ x, x ∈ o.op.operands -> Rep w ρ Im (ev E x) (a.eval x) := λ x hx => Jb8 henv (JbP hlow hx)
 obtain ⟨dst, op, ty, pos, after, guard⟩ := o
 simp only at hlow h rep
 unfold JaH at h
 split at h
 . subst h; exact ⟨_, rfl, rep _ (by simp [Op.operands])⟩
 . subst h; exact ⟨_, rfl, rep _ (by simp [Op.operands])⟩
 . -- pick
   rename_i c x y
   split at h
   . rename_i b hb
     have hc := rep c (by simp [Op.operands])
     rw [hb] at hc; have hc := hc.v_inv; subst h
     cases b
     . exact ⟨a.eval y, by simp [execOp, hc, asBool], by simpa using rep y (by simp [Op.operands])⟩
     . exact ⟨a.eval x, by simp [execOp, hc, asBool], by simpa using rep x (by simp [Op.operands])⟩
   . exact h.elim
 . -- load
   rename_i t x
   obtain ⟨cs, j, b, o, ys, hp, hy, hr, h1, hc⟩ := JeS hinv h (rep x (by simp [Op.operands]))
   obtain ⟨y, hrun, hrep⟩ := JfM hp hr h1 hc
   exact ⟨y, by simp [execOp, hy, Instr.loadAt, Instr.sureAddr, hrun], hrep⟩
 . -- nilCheck
   rename_i x
   have hx := rep x (by simp [Op.operands])
   split at h
   . rename_i e j he; rw [he] at hx; subst h
     obtain ⟨b, o, hy, _⟩ := hx.pt_inv
     exact ⟨a.eval x, by simp [execOp, hy], hx⟩
   . rename_i id sz i j he; rw [he] at hx; subst h
     obtain ⟨b, hy, _⟩ := hx.ptr_inv
     exact ⟨a.eval x, by simp [execOp, hy], hx⟩
   . rename_i g cs he; rw [he] at hx; subst h
     obtain ⟨ys, hy, _⟩ := hx.clo_inv
     obtain ⟨a1, b1, e1⟩ := Ji9 g ys
     exact ⟨a.eval x, by simp [execOp, hy, e1], hx⟩
   . exact h.elim
 . -- binOp
   rename_i op t x y t'
   have hx := rep x (by simp [Op.operands])
   have hy := rep y (by simp [Op.operands])
   split at h
   . rename_i k m k' n h1 h2
     rw [h1] at hx; rw [h2] at hy
     have hx := hx.v_inv; have hy := hy.v_inv
     obtain ⟨z, hz, rfl⟩ := JnB (P := P) (t := t) h w
     exact ⟨z, by simp [execOp, hx, hy, Jlx, hz], .im _ _ (.v _)⟩
   . rename_i m n h1 h2
     rw [h1] at hx; rw [h2] at hy
     have hx := hx.v_inv; have hy := hy.v_inv
     obtain ⟨z, hz, rfl⟩ := JnC (P := P) (t := t) h w
     exact ⟨z, by simp [execOp, hx, hy, JhN, hz], .im _ _ (.v _)⟩
   . rename_i m n h1 h2
     rw [h1] at hx; rw [h2] at hy
     have hx := hx.v_inv; have hy := hy.v_inv
     have hg : ∀ w, (eqGuard op t x y (.bool m) (.bool n)).run P w = .ok () w := λ w => by unfold eqGuard; cases op <;> rfl
     obtain ⟨hk, h⟩ := h
     have hu : P.underlying t = some .bool := by
      rcases JdW hk with ⟨h0, _⟩ | ⟨_, h0⟩ | ⟨h0, _⟩
      . cases h0
      . exact h0
      . cases h0
     have he : ∀ w, (Op.equalIn 10000 t (.bool m) (.bool n)).run P w = .ok (m == n) w := λ w => run_equalIn_bool' w 9999 t m n hu
     rcases h with ⟨rfl, rfl⟩ | ⟨rfl, rfl⟩
     . exact ⟨.bool (m == n), by simp [execOp, hx, hy, hg, binOp, Op.equal, Op.maxDepth, he], .im _ _ (.v _)⟩
     . exact ⟨.bool (!(m == n)), by simp [execOp, hx, hy, hg, binOp, Op.equal, Op.maxDepth, he], .im _ _ (.v _)⟩
   . rename_i cs ds h1 h2
     rw [h1] at hx; rw [h2] at hy
     obtain ⟨xs, hxe, hxl, _, hxr⟩ := hx.agg_inv; obtain ⟨ys, hye, hyl, _, hyr⟩ := hy.agg_inv; obtain ⟨ks, hks, b, hb, h⟩ := h
     obtain ⟨g1, g2, g3⟩ := Jk0 (P := P) hks hb ⟨hxl, hxr⟩ ⟨hyl, hyr⟩ op x y
     rcases h with ⟨rfl, rfl⟩ | ⟨rfl, rfl⟩
     . exact ⟨.bool b, by simp only [execOp, hxe, hye, Sem.run_bind, g1, g2, Result.andThen_ok, Sem.run_pure], .im _ _ (.v _)⟩
     . exact ⟨.bool (!b), by simp only [execOp, hxe, hye, Sem.run_bind, g1, g3, Result.andThen_ok, Sem.run_pure], .im _ _ (.v _)⟩
   . rename_i u h1 h2; rw [h2] at hy; have hy := hy.v_inv; obtain ⟨hf, ht, h⟩ := h
     obtain ⟨ad, n, c, hxe⟩ := hx.full hf
     have hu : ∃ e, P.underlying t = some (.slice e) := by
      unfold tel at ht
      split at ht
      . rename_i e he; exact ⟨e, he⟩
      . cases ht
     obtain ⟨e, hu⟩ := hu
     have hg : ∀ w, (eqGuard op t x y (.slice (some ad) n c) (.slice none 0 0)).run P w = .ok () w := λ w => by unfold eqGuard; cases op <;> rfl
     have he : ∀ w, (Op.equalIn 10000 t (.slice (some ad) n c) (.slice none 0 0)).run P w = .ok false w := λ w => by
      have hrun : ∀ (f : TypeDesc -> Sem Bool), (underlying t >>= f).run P w = (f (.slice e)).run P w := λ f => by
       simp [Sem.run_bind, underlying, hu]
      unfold Op.equalIn
      rw [hrun]; rfl
     rcases h with ⟨rfl, rfl⟩ | ⟨rfl, rfl⟩
     . exact ⟨.bool false, by simp [execOp, hxe, hy, hg, binOp, Op.equal, Op.maxDepth, he], .im _ _ (.v _)⟩
     . exact ⟨.bool true, by simp [execOp, hxe, hy, hg, binOp, Op.equal, Op.maxDepth, he], .im _ _ (.v _)⟩
   . exact h.elim
 . -- build
   rename_i t parts; obtain ⟨z, hz, hok, h⟩ := h
   obtain ⟨zs, hzc, hzl, hz1, hzr⟩ := Value.cells_ofC hok
   have hp := Jjd henv parts.toList λ p hp => JbP hlow (by simp [Op.operands]; exact ⟨p.1, L0x.1 hp⟩)
   have hpe : (parts.map λ (i, x) => (i, a.eval x)).toList = parts.toList.map λ p => (p.1, a.eval p.2) := by simp
   rcases h with ⟨fs, hfs, hall, cs, hf, rfl⟩ | ⟨m, e, he, hze, cs, hf, rfl⟩
   . obtain ⟨fa, hu, rfl⟩ := Jmh hfs
     obtain ⟨ys, hfill, hrep, h1⟩ := Jd1 _ _ _ _ _ hp hf (hzr w ρ Im) hz1
     refine ⟨.agg ys.toArray, ?_, .agg_mk hrep.1 h1 hrep.2⟩
     have hplaces : ∀ l : List Field, (∀ f ∈ l, 0 < tsz P f.type) -> (l.mapM λ f => (do pure (f.offset, <- sizeOf f.type) : Sem (Nat × Nat))).run P w = .ok (l.map λ f => (f.offset, tsz P f.type)) w := by
      intro l
      induction l with
      | nil => intro _; simp
      | cons f l ih =>
       intro hl
       simp only [List.mapM_cons, Sem.run_bind, Jat (hl f (by simp)) w, Result.andThen_ok, Sem.run_pure, ih (λ g hg => hl g (by simp [hg])), L0l]
     have hpa : (fa.mapM λ f => (do pure (f.offset, <- sizeOf f.type) : Sem (Nat × Nat))).run P w = .ok (fa.toList.map λ f => (f.offset, tsz P f.type)).toArray w := by
      rw [Array.mapM_eq_mapM_toList]; simp only [map_eq_pure_bind, Sem.run_bind]
      rw [hplaces fa.toList (λ f hf => by
       have := L0f.1 hall (f.offset, f.type) (L05.2 ⟨f, hf, rfl⟩)
       simpa using this)]
      rfl
     have hplace : (λ (i : Nat) => ((fa.toList.map λ f => (f.offset, tsz P f.type)).toArray)[i]?) = (λ i => ((fa.toList.map λ f => (f.offset, f.type))[i]?).map λ (f : Nat × TypeId) => (f.1, tsz P f.2)) := by
      funext i; rw [L1g, L07, L07]; cases fa.toList[i]? <;> rfl
     simp only [execOp, Instr.build, Sem.run_bind, JcO hz w, Result.andThen_ok, run_underlying hu w, hpa, hplace, hpe, hzc, hfill, Sem.run_pure]
   . obtain ⟨ys, hfill, hrep, h1⟩ := Jd1 _ _ _ _ _ hp hf (hzr w ρ Im) hz1
     refine ⟨.agg ys.toArray, ?_, .agg_mk hrep.1 h1 hrep.2⟩
     simp only [execOp, Instr.build, Sem.run_bind, JcO hz w, Result.andThen_ok, run_underlying (JdV he) w, Jat hze w, hpe, hzc, hfill, Sem.run_pure]
 . -- unOp
   rename_i op t x
   have hx := rep x (by simp [Op.operands])
   split at h
   . rename_i b hb; rw [hb] at hx; have hx := hx.v_inv; subst h
     exact ⟨_, by simp [execOp, hx, Op.unary], .im _ _ (.v _)⟩
   . rename_i k n hb; rw [hb] at hx; have hx := hx.v_inv; subst h
     exact ⟨_, by simp only [execOp, hx, Op.unary, Op.intArith, Sem.run_bind, Sem.run_pure, Result.andThen_ok], .im _ _ (.v _)⟩
   . rename_i k n hb; rw [hb] at hx; have hx := hx.v_inv; subst h
     exact ⟨_, by simp only [execOp, hx, unary_xor, Sem.run_bind, JdD .xor (by simp), Sem.run_pure, Result.andThen_ok], .im _ _ (.v _)⟩
   . exact h.elim
 . -- convert
   rename_i src dst x
   have hx := rep x (by simp [Op.operands])
   split at h
   . rename_i k k' n hk hb
     rw [hb] at hx; have hx := hx.v_inv
     obtain ⟨⟨d, hd⟩, rfl⟩ := h
     refine ⟨.int k (k.wrap n), ?_, .im _ _ (.v _)⟩
     have hdst := JvZ hk; simp only [execOp, hx, convert, Sem.run_bind, run_underlying hd w, run_underlying hdst w, Result.andThen_ok]
     cases d <;> rfl
   . exact h.elim
 . -- makeFunc
   rename_i f first cs
   rcases h with ⟨rfl, hh, rfl⟩ | ⟨rfl, rfl⟩
   . have hall : ∀ (j : Nat) (c : AV) (y : Value), (cs.toList.map (ev E))[j]? = some c -> (cs.toList.map a.eval)[j]? = some y -> Rep w ρ Im c y := λ j c y hc hy => by
      rw [L07] at hc hy
      cases hx : cs.toList[j]? with
      | none => simp [hx] at hc
      | some x =>
       simp only [hx, L0I, Option.some.injEq] at hc hy
       subst hc; subst hy
       exact rep x (by simp only [Op.operands, Array.empty_append]; exact L0x.1 (L02 hx))
     have := Rep.clo (w := w) (ρ := ρ) (Im := Im) f (cs.toList.map (ev E)) (cs.toList.map a.eval) (by simp) hall
     rw [Jh7 hh (by simp) hall] at this
     refine ⟨_, ?_, this⟩
     cases cs; simp [execOp, Instr.makeFunc]
   . have hall : ∀ (j : Nat) (c : AV) (y : Value), (AV.v (.tuple #[]) :: first.toList.map (ev E))[j]? = some c -> (Value.tuple #[] :: first.toList.map a.eval)[j]? = some y -> Rep w ρ Im c y := λ j c y hc hy => by
      cases j with
      | zero =>
       simp only [List.getElem?_cons_zero, Option.some.injEq] at hc hy
       subst hc; subst hy; exact .im _ _ (.v _)
      | succ j =>
       rw [List.getElem?_cons_succ, L07] at hc hy
       cases hx : first.toList[j]? with
       | none => simp [hx] at hc
       | some x =>
        simp only [hx, L0I, Option.some.injEq] at hc hy
        subst hc; subst hy
        exact rep x (by simp only [Op.operands, Array.append_empty]; exact L0x.1 (L02 hx))
     have := Rep.clo (w := w) (ρ := ρ) (Im := Im) f (.v (.tuple #[]) :: first.toList.map (ev E)) (.tuple #[] :: first.toList.map a.eval) (by simp) hall
     refine ⟨_, ?_, this⟩
     cases first; simp [execOp, Instr.makeFunc, mkF]
 . -- fieldAddr
   rename_i s x f; obtain ⟨fs, hfs, off, t, hf, hz, h⟩ := h
   obtain ⟨fa, hu, rfl⟩ := Jmh hfs
   have hx := rep x (by simp [Op.operands])
   rw [L07] at hf
   cases hff : fa.toList[f]? with
   | none => simp [hff] at hf
   | some fl =>
    simp only [hff, L0I, Option.some.injEq, Prod.mk.injEq] at hf; obtain ⟨rfl, rfl⟩ := hf
    have hff' : fa[f]? = some fl := by simpa using hff
    split at h
    . rename_i e j he; rw [he] at hx; subst h
      obtain ⟨b, o, hy, hall⟩ := hx.pt_inv
      refine ⟨_, ?_, hall (j + fl.offset)⟩
      simp only [execOp, hy, Instr.fieldAt, Sem.run_bind, run_underlying hu w, Result.andThen_ok, hff', Instr.sureAddr, Sem.run_pure, Jep hz rfl w, L0K]
    . rename_i id sz i j he; rw [he] at hx; subst h
      obtain ⟨b, hy, hall⟩ := hx.ptr_inv
      refine ⟨_, ?_, hall i (j + fl.offset)⟩
      simp only [execOp, hy, Instr.fieldAt, Sem.run_bind, run_underlying hu w, Result.andThen_ok, hff', Instr.sureAddr, Sem.run_pure, Jep hz rfl w, L0K]
    . exact h.elim
 . -- field
   rename_i s x f; obtain ⟨fs, hfs, off, t, hf, h⟩ := h
   obtain ⟨fa, hu, rfl⟩ := Jmh hfs
   have hx := rep x (by simp [Op.operands])
   rw [L07] at hf
   cases hff : fa.toList[f]? with
   | none => simp [hff] at hf
   | some fl =>
    simp only [hff, L0I, Option.some.injEq, Prod.mk.injEq] at hf; obtain ⟨rfl, rfl⟩ := hf
    have hff' : fa[f]? = some fl := by simpa using hff
    split at h
    . rename_i cs he; rw [he] at hx
      obtain ⟨ys, hy, hl, h1, hr⟩ := hx.agg_inv
      obtain ⟨z, hz, hrep⟩ := Jgi h ⟨hl, hr⟩ h1
      exact ⟨z, by simp only [execOp, hy, Instr.field, Sem.run_bind, run_underlying hu w, Result.andThen_ok, hff', asAgg, Sem.run_pure, hz], hrep⟩
    . exact h.elim
 . -- indexAddr
   rename_i t x i
   have hx := rep x (by simp [Op.operands])
   have hi := rep i (by simp [Op.operands])
   split at h
   . rename_i k n hn; rw [hn] at hi; have hi := hi.v_inv
     rcases h with ⟨e, he, h⟩ | ⟨m, e, he, hz, h0, hlt, h⟩
     . obtain ⟨z, hz, hrep⟩ := Jmb (k := k) he h hx
       exact ⟨z, by simp [execOp, hi, hz], hrep⟩
     . have hu := JdV he
       split at h
       . rename_i c j hc; rw [hc] at hx; subst h
         obtain ⟨b, o, hy, hall⟩ := hx.pt_inv
         refine ⟨_, ?_, hall (j + n.toNat * tsz P e)⟩
         simp only [execOp, hi, hy, Instr.indexAt, Sem.run_bind, Jcn, Result.andThen_ok, run_underlying hu w, Instr.sureAddr, Sem.run_pure]; rw [if_pos ⟨h0, hlt⟩]; simp only [Sem.run_bind, Jat hz w, Result.andThen_ok, Sem.run_pure, Jbd, L0K]
       . rename_i id sz o j hc; rw [hc] at hx; subst h
         obtain ⟨b, hy, hall⟩ := hx.ptr_inv
         refine ⟨_, ?_, hall o (j + n.toNat * tsz P e)⟩
         simp only [execOp, hi, hy, Instr.indexAt, Sem.run_bind, Jcn, Result.andThen_ok, run_underlying hu w, Instr.sureAddr, Sem.run_pure]; rw [if_pos ⟨h0, hlt⟩]; simp only [Sem.run_bind, Jat hz w, Result.andThen_ok, Sem.run_pure, Jbd, L0K]
       . exact h.elim
   . exact h.elim
 . -- index
   rename_i t x i
   have hx := rep x (by simp [Op.operands])
   have hi := rep i (by simp [Op.operands])
   split at h
   . rename_i k n s hn hs
     rw [hn] at hi; rw [hs] at hx
     have hi := hi.v_inv; have hx := hx.v_inv
     obtain ⟨ht, h0, c, hc, rfl⟩ := h
     refine ⟨_, ?_, .im _ _ (.v _)⟩
     simp only [execOp, hi, hx, Instr.index, Sem.run_bind, Jcn, Result.andThen_ok, run_underlying (JjA ht) w, h0, if_true, hc, Sem.run_pure]
   . rename_i k n cs hn hs
     rw [hn] at hi; rw [hs] at hx
     have hi := hi.v_inv; obtain ⟨m, e, he, hz, h0, hlt, h⟩ := h; obtain ⟨ys, hy, hl, h1, hr⟩ := hx.agg_inv
     obtain ⟨z, hzz, hrep⟩ := Jgi h ⟨hl, hr⟩ h1
     refine ⟨z, ?_, hrep⟩
     simp only [execOp, hi, hy, Instr.index, Sem.run_bind, Jcn, Result.andThen_ok, run_underlying (JdV he) w]; rw [if_pos ⟨h0, hlt⟩]; simp only [Sem.run_bind, Jat hz w, Result.andThen_ok, hzz, Sem.run_pure]
   . exact h.elim
 . -- extract
   rename_i x i
   have hx := rep x (by simp [Op.operands])
   split at h
   . rename_i vs hv; rw [hv] at hx
     obtain ⟨ys, hy, hl, hr⟩ := hx.tup_inv
     have hlt : i < ys.length := by rw [<- hl]; exact (L0a.1 h).1
     refine ⟨ys[i], ?_, hr i r _ h (L08 hlt)⟩
     simp [execOp, hy, Instr.extract, hlt]
   . exact h.elim
 . -- slice
   rename_i t x lo hi
   have hx := rep x (by simp [Op.operands])
   have hhi : ∀ o, hi = some o -> Rep w ρ Im (ev E o) (a.eval o) := λ o ho => rep o (by subst ho; simp [Op.operands])
   have hlo : ∀ o, lo = some o -> Rep w ρ Im (ev E o) (a.eval o) := λ o ho => rep o (by subst ho; simp [Op.operands])
   rcases h with ⟨e, he, n, hn, hb⟩ | ⟨ht, n, hn, hb⟩
   . obtain ⟨y, hy, hr⟩ := Jrn he hn hb hx hhi hlo
     exact ⟨y, by simp [execOp, hy], hr⟩
   . obtain ⟨y, hy, hr⟩ := JoE ht hn hb hx hhi hlo
     exact ⟨y, by simp [execOp, hy], hr⟩
 . -- len
   rename_i args argTypes
   split at h
   . rename_i x t hx ht
     have hx' : args = #[x] := by rw [<- L1Q (xs := args), hx]
     have ht' : argTypes = #[t] := by rw [<- L1Q (xs := argTypes), ht]
     subst hx'; subst ht'
     have hx := rep x (by simp [Op.operands, Call.operands])
     rcases h with ⟨ht, h⟩ | ⟨ht, h⟩ | ⟨m, e, ht, rfl⟩
     . split at h
       . rename_i s hs; rw [hs] at hx; have hx := hx.v_inv; subst h
         exact ⟨_, by simp [execOp, resolve, invoke, builtin, hx, Builtin.len_, run_underlying (JjA ht), goInt], .im _ _ (.v _)⟩
       . exact h.elim
     . obtain ⟨e, he⟩ := L2n.1 ht
       have key : ∀ n ad cap, a.eval x = .slice ad n cap -> r = .v (.int .i64 (n : Int)) -> ∃ y, (execOp a.eval { dst, op := .call { callee := .builtin .len, args := #[x], argTypes := #[t] }, type := ty, pos, after, guard }).run P w = .ok (.value y) w /\ Rep w ρ Im r y := by
        rintro n ad cap hy rfl
        exact ⟨_, by simp [execOp, resolve, invoke, builtin, hy, Builtin.len_, run_underlying (JbJ he), goInt], .im _ _ (.v _)⟩
       have hl : ∀ n, lenV (ev E x) = some n -> (∀ s, ev E x ≠ .v (.string s)) -> ∃ ad cap, a.eval x = .slice ad n cap := λ n hn hs => by
        rcases Jn9 hn hx with h' | ⟨s, _, _, h'⟩
        . exact h'
        . exact absurd h' (hs s)
       split at h
       . rename_i hh; obtain ⟨ad, cap, hy⟩ := hl _ (by rw [hh]; rfl) (by rw [hh]; simp); exact key _ ad cap hy h
       . rename_i hh; obtain ⟨ad, cap, hy⟩ := hl _ (by rw [hh]; rfl) (by rw [hh]; simp); exact key _ ad cap hy h
       . rename_i hh; obtain ⟨ad, cap, hy⟩ := hl _ (by rw [hh]; rfl) (by rw [hh]; simp); exact key _ ad cap hy h
       . exact h.elim
     . exact ⟨_, by simp [execOp, resolve, invoke, builtin, Builtin.len_, run_underlying (JdV ht), goInt], .im _ _ (.v _)⟩
   . exact h.elim
 . -- max
   rename_i args argTypes
   split at h
   . rename_i k m k' n hx; obtain ⟨l⟩ := args
     obtain ⟨x, y, rfl⟩ : ∃ x y, l = [x, y] := by
      rcases l with _ | ⟨x, _ | ⟨y, _ | ⟨z, l⟩⟩⟩ <;> first | exact ⟨_, _, rfl⟩ | simp at hx
     . simp only [L0l, L0G, List.cons.injEq, and_true] at hx; obtain ⟨h1, h2⟩ := hx
       have hx := rep x (by simp [Op.operands, Call.operands])
       have hy := rep y (by simp [Op.operands, Call.operands])
       rw [h1] at hx; rw [h2] at hy
       have hx := hx.v_inv; have hy := hy.v_inv
       subst h
       exact ⟨_, by simp [execOp, resolve, invoke, builtin, hx, hy, Builtin.max_, Builtin.max2], .im _ _ (.v _)⟩
   . exact h.elim
 . -- min
   rename_i args argTypes
   split at h
   . rename_i k m k' n hx; obtain ⟨l⟩ := args
     obtain ⟨x, y, rfl⟩ : ∃ x y, l = [x, y] := by
      rcases l with _ | ⟨x, _ | ⟨y, _ | ⟨z, l⟩⟩⟩ <;> first | exact ⟨_, _, rfl⟩ | simp at hx
     . simp only [L0l, L0G, List.cons.injEq, and_true] at hx; obtain ⟨h1, h2⟩ := hx
       have hx := rep x (by simp [Op.operands, Call.operands])
       have hy := rep y (by simp [Op.operands, Call.operands])
       rw [h1] at hx; rw [h2] at hy
       have hx := hx.v_inv; have hy := hy.v_inv
       subst h
       exact ⟨_, by simp [execOp, resolve, invoke, builtin, hx, hy, Builtin.min_, Builtin.min2], .im _ _ (.v _)⟩
   . exact h.elim
 . -- unsafeSliceData
   rename_i args argTypes
   split at h
   . rename_i id sz n hx; obtain ⟨l⟩ := args
     obtain ⟨x, rfl⟩ : ∃ x, l = [x] := by
      rcases l with _ | ⟨x, _ | ⟨y, l⟩⟩ <;> first | exact ⟨_, rfl⟩ | simp at hx
     simp only [L0l, L0G, List.cons.injEq, and_true] at hx
     have hr := rep x (by simp [Op.operands, Call.operands])
     rw [hx] at hr; obtain ⟨rfl, rfl⟩ := h; generalize hax : a.eval x = ax at hr
     cases hr with
     | im _ _ h => cases h
     | own _ _ _ b cap cur e hρ hn hcap hb hs hz =>
      have hc : cap ≠ 0 := by omega
      refine ⟨.pointer (some ⟨b, 0, none⟩), ?_, .ptr id 1 0 0 b hρ hz⟩
      have hrun : (Builtin.unsafeSliceData_ argTypes ty #[.slice (some ⟨b, 0, none⟩) (n + 1) cap]).run P w = .ok (.pointer (some ⟨b, 0, none⟩)) w := by
       show Sem.run P (if cap ≠ 0 then pure (.pointer (some ⟨b, 0, none⟩)) else _ : Sem Value) w = _
       rw [if_pos hc]; rfl
      simp [execOp, resolve, invoke, builtin, hax, hrun]
     | ownAt _ _ _ _ _ _ _ h0 => omega
   . exact h.elim
 . exact h.elim
variable {P : Program} {C : Fx} {w : World} {ρ : Nat -> Option Nat} {Im : Nat -> Prop} {M : Str} {E : Env} {σ : Jac} {a : Act}
def Jbh (d : Nat) (E : Env) (σ : Jac) : Prop := σ d = none /\ (∀ t, ¬ Names (E t) d) /\ ∀ id k, σ id = some k -> ∀ e ∈ k.es, ¬ Names e d
theorem JbZ {p : Nat -> Bool} {d : Nat} (h : p d = true) (E : Env) (σ : Jac) : Jbh d (JaU p E) (Jao p σ) := by
 refine ⟨by simp [Jao, h], λ t f => ?_, λ id k c e b f => ?_⟩
 . have := (AV.kill_names p (E t) d f).2; rw [h] at this; cases this
 . simp only [Jao] at c
   split at c
   . cases c
   . simp only [L0h] at c; obtain ⟨q, o, rfl⟩ := c; unfold Blk.kill at b
     split at b
     . rw [AV.dkL_eq] at b
       obtain ⟨l, _, rfl⟩ := L05.1 b
       have := (AV.dk_names p l d f).2; rw [h] at this; cases this
     . rename_i i; exact i ((AV.namesL_iff _ _).2 ⟨e, b, AV.namesB_of p f h⟩)
theorem Jbh.put {d : Nat} {dst : Option Nat} {v : AV} (h : Jbh d E σ) (b : ¬ Names v d) : Jbh d (updO E dst v) σ := by
 refine ⟨h.1, λ t => ?_, h.2.2⟩
 cases dst with
 | none => exact h.2.1 t
 | some x => simp only [updO, upd]; split; exact b; exact h.2.1 t
theorem Jbh.add {d id : Nat} {k : Blk} (h : Jbh d E σ) (f : id ≠ d) (i : ∀ e ∈ k.es, ¬ Names e d) : Jbh d E (updS σ id k) := by
 refine ⟨by rw [JaI _ _ _ _ f.symm]; exact h.1, h.2.1, λ c l b => ?_⟩
 by_cases e : c = id
 . subst e; simp at b; subst b; exact i
 . rw [JaI _ _ _ _ e] at b; exact h.2.2 c l b
def JgN (w : World) (ρ : Nat -> Option Nat) (Im : Nat -> Prop) (k : Blk) (cur : Array Value) : Prop :=
 (∀ e ∈ k.es, e.cells.length = k.sz) /\ k.es.length * k.sz <= cur.size /\
  ∀ (i : Nat) (e : AV) (j : Nat) (c : AV), k.es[i]? = some e -> e.cells[j]? = some c -> ∃ x, cur[i * k.sz + j]? = some x /\ x.oneCell' = true /\ Rep w ρ Im c x
theorem JaK.later {w' : World} {d : Nat} {l : Option Nat} {tm : Array Value} (h : JaK w ρ Im E tm) (b : Inv w ρ Im σ) (c : ∀ k, k < w.heap.size -> w'.heap[k]? = w.heap[k]?) (f : ∀ t, ¬ Names (E t) d) :
 JaK w' (updR ρ d l) Im E tm := λ t y i => (h t y i).later b.low (λ _ _ => b.lt) c (f t)
theorem Jje (h : Wit C E σ a w ρ Im M) {d : Nat} (f : C.pin d = none) {i : Option Nat} : ∀ id b, C.pin id = some b -> updR ρ d i id = b := λ id b c => by
 by_cases e : id = d
 . subst e; rw [f] at c; cases c
 . rw [JaJ _ _ _ _ e]; exact h.pin id b c
theorem Wit.newBlock (D : JaQ C.G) (h : Wit C E σ a w ρ Im M) {d : Nat} (t : C.pin d = none) (f : Jbh d E σ) {k : Blk} {cur : Array Value} (p : JgN w ρ Im k cur)
 (s : ∀ e ∈ k.es, ¬ Names e d) (L : k.sz ≠ 0) {dst : Option Nat} {v : AV} {y : Value} (F : ∀ d, dst = some d -> d < C.N)
 (J : Rep (w.alloc (.cells cur k.e)) (updR ρ d (some w.heap.size)) Im v y) :
 Wit C (updO E dst v) (updS σ d k) (a.put dst y) (w.alloc (.cells cur k.e)) (updR ρ d (some w.heap.size)) Im M := by
 have o : ∀ i, i < w.heap.size -> (w.alloc (.cells cur k.e)).heap[i]? = w.heap[i]? := λ i q => Below.heap_alloc w _ i q
 refine h.step D (Ext.alloc _ _ _) ?_ ((h.env.later h.inv o f.2.1).put J) (JbR ..) (Jbb ..) (JdX F) (λ id b l => ?_) (λ _ q => .inl q) (Jje h t) (λ _ h => h)
 . refine h.inv.fresh (by simp) o f.1 f.2.2 (λ _ h => h) (λ _ h => .inl h) ⟨L09 _, by simp, λ A => absurd A L, λ _ => ⟨cur, JeT (World.alloc_heap_new w _), p.1, p.2.1, λ i e j c z u => ?_⟩⟩
   obtain ⟨x, K, B, I⟩ := p.2.2 i e j c z u
   exact ⟨x, K, B, I.later h.inv.low (λ _ _ => h.inv.lt) o (λ H => s e (L02 z) (JdF (L02 u) H))⟩
 . by_cases e : id = d
   . subst e; simp at l; exact .inr (by omega)
   . rw [JaJ _ _ _ _ e] at l; exact .inl l
theorem Wit.newNil (k : JaQ C.G) (h : Wit C E σ a w ρ Im M) {d : Nat} (i : C.pin d = none) (c : Jbh d E σ) (e sz : Nat) {dst : Option Nat} {v : AV} {y : Value} (l : ∀ d, dst = some d -> d < C.N)
 (p : Rep w (updR ρ d none) Im v y) : Wit C (updO E dst v) (updS σ d ⟨e, sz, []⟩) (a.put dst y) w (updR ρ d none) Im M := by
 refine h.step k (Ext.refl _ _) ?_ ((h.env.later h.inv (λ _ _ => rfl) c.2.1).put p) (JbR ..) (Jbb ..) (JdX l) (λ id b f => ?_) (λ _ o => .inl o) (Jje h i) (λ _ h => h)
 . exact h.inv.fresh (L09 _) (λ _ _ => rfl) c.1 c.2.2 (λ _ h => h) (λ _ h => .inl h) rfl
 . by_cases e : id = d
   . subst e; simp at f
   . rw [JaJ _ _ _ _ e] at f; exact .inl f
theorem JnZ {t : TypeId} {v : AV} {y : Value} (h : v.ok = true) (q : Rep w ρ Im v y) {sz : Nat} (f : v.cells.length = sz) : JgN w ρ Im ⟨t, sz, [v]⟩ y.cells := by
 obtain ⟨ys, o, b, p⟩ := JdG h q
 refine ⟨by simp [f], ?_, λ i e j c k l => ?_⟩
 . rw [o]; simp [<- b.1, f]
 . cases i with
   | succ i => simp at k
   | zero =>
    simp at k; subst k
    have d : j < ys.length := by rw [<- b.1]; exact (L0a.1 l).1
    exact ⟨ys[j], by rw [o]; simp [d], p _ (L1w d), b.2 j c _ l (L08 d)⟩
variable {P : Program} {C : Fx} {w : World} {ρ : Nat -> Option Nat} {Im : Nat -> Prop} {M : Str} {E : Env} {σ : Jac} {a : Act}
def addS (σ : Jac) : List (Nat × Blk) -> Jac
 | [] => σ
 | (id, k) :: l => addS (updS σ id k) l
def newV (P : Program) (d : Nat) (op : Op) (ty : TypeId) (E : Env) (r : AV) (f : List (Nat × Blk)) : Prop :=
 match op with
 | .move (.const (.slice none 0 0)) => ∃ e, tel P ty = some e /\ r = .own (16 * d) (tsz P e) 0 0 /\ f = [(16 * d, ⟨e, tsz P e, []⟩)]
 | .assign (.const (.slice none 0 0)) => ∃ e, tel P ty = some e /\ r = .own (16 * d) (tsz P e) 0 0 /\ f = [(16 * d, ⟨e, tsz P e, []⟩)]
 | .alloc t => match tel P t with
  | some e => tz P t = some (.slice none 0 0) /\ tsz P t = 1 /\ r = .ptr (16 * d) 1 0 0 /\ f = [(16 * d + 1, ⟨e, tsz P e, []⟩), (16 * d, ⟨t, 1, [.own (16 * d + 1) (tsz P e) 0 0]⟩)]
  | none => ∃ z, tz P t = some z /\ (ofC z).ok = true /\ (ofC z).cells.length = tsz P t /\ tsz P t ≠ 0 /\ r = .ptr (16 * d) (tsz P t) 0 0 /\ f = [(16 * d, ⟨t, tsz P t, [ofC z]⟩)]
 | .box t x => (ev E x).ok = true /\ (ev E x).cells.length = tsz P t /\ tsz P t ≠ 0 /\ r = .ptr (16 * d) (tsz P t) 0 0 /\ f = [(16 * d, ⟨t, tsz P t, [ev E x]⟩)]
 | .buildSlice t h b => ∃ e, tel P t = some e /\ 0 < tsz P e /\ (∃ z, tz P e = some z /\ (ofC z).ok = true /\ (ofC z).cells.length = tsz P e) /\ h * tsz P e <= 16777216 /\ b.toList.map (·.1) = List.range h /\
  (∀ p ∈ b.toList, (ev E p.2).ok = true /\ (ev E p.2).cells.length = tsz P e) /\ r = .own (16 * d) (tsz P e) 0 h /\ f = [(16 * d, ⟨e, tsz P e, b.toList.map λ p => ev E p.2⟩)]
 | .makeSlice t l c => match ev E l, ev E c with
  | .v (.int _ n), .v (.int _ m) => ∃ e, tel P t = some e /\ 0 < tsz P e /\ ∃ z, tz P e = some z /\ (ofC z).ok = true /\ (ofC z).cells.length = tsz P e /\ 0 <= n /\ n <= m /\ m * (tby P e : Int) <= 281474976710656 /\ m <= 4611686018427387904 /\
   r = .own (16 * d) (tsz P e) 0 n.toNat /\ f = [(16 * d, ⟨e, tsz P e, List.replicate n.toNat (ofC z)⟩)]
  | _, _ => False
 | _ => False
theorem Jhr {x : Value} {id : Nat} (h : Names (ofC x) id) : False := by
 unfold ofC at h
 split at h
 . split at h
   . cases h with | agg _ c _ b h => obtain ⟨y, _, rfl⟩ := L05.1 b; cases h
   . cases h
 . cases h with | tup _ c _ b h => obtain ⟨y, _, rfl⟩ := L05.1 b; cases h
 . cases h
theorem Jsp {x : Operand} {id : Nat} (h : Names (ev E x) id) : ∃ t, x = .tmp t /\ Names (E t) id := by
 cases x with
 | tmp t => exact ⟨t, rfl, h⟩
 | const v => exact (Jhr h).elim
 | global g => cases h
 | func f => cases h with | clo _ _ c _ b h => simp at b
theorem Jbk {v c : AV} {id : Nat} (b : c ∈ v.cells) (h : Names c id) : Names v id := by
 cases v with
 | agg d => exact .agg d c id b h
 | _ => simp only [AV.cells, L0u] at b; subst b; exact h
theorem Jbh.ev {d : Nat} (h : Jbh d E σ) (x : Operand) : ¬ Names (ev E x) d := λ b => by
 obtain ⟨t, _, c⟩ := Jsp b; exact h.2.1 t c
theorem Je8 (i : JaQ C.G) (h : Wit C E σ a w ρ Im M) {d b : Nat} (f : C.pin (16 * b) = none) (c : Jbh (16 * b) E σ) (k : d < C.N) (e sz : Nat) :
 Wit C (upd E d (.own (16 * b) sz 0 0)) (updS σ (16 * b) ⟨e, sz, []⟩) (a.put (some d) (.slice none 0 0)) w (updR ρ (16 * b) none) Im M :=
 h.newNil i f c e sz (dst := some d) (λ _ e => by cases e; exact k) (.ownNil _ _ (by simp))
theorem JdO (s : JaQ C.G) (h : Wit C E σ a w ρ Im M) {d b : Nat} (l : C.pin (16 * b) = none) (c : Jbh (16 * b) E σ) (u : d < C.N) {t sz : Nat} {v : AV} {y : Value} (i : v.ok = true) (o : v.cells.length = sz) (q : sz ≠ 0)
 (A : Rep w ρ Im v y) (z : ¬ Names v (16 * b)) :
 Wit C (upd E d (.ptr (16 * b) sz 0 0)) (updS σ (16 * b) ⟨t, sz, [v]⟩) (a.put (some d) (.pointer (some ⟨w.heap.size, 0, none⟩))) (w.alloc (.cells y.cells t)) (updR ρ (16 * b) (some w.heap.size)) Im M := by
 refine h.newBlock s l c (k := ⟨t, sz, [v]⟩) (JnZ i A o) ?_ q (dst := some d) (λ _ e => by cases e; exact u) ?_
 . intro e p f; simp at p; subst p; exact z f
 . have := Rep.ptr (w := w.alloc (.cells y.cells t)) (ρ := updR ρ (16 * b) (some w.heap.size)) (Im := Im) (16 * b) sz 0 0 w.heap.size (by simp) q
   simpa using this
theorem JmD {sz : Nat} (y : 0 < sz) : ∀ (l : List (Nat × AV)) (i n : Nat) (cs : List AV), l.map (·.1) = (List.range' i l.length) -> (∀ p ∈ l, p.2.ok = true /\ p.2.cells.length = sz) -> cs.length = n * sz -> i + l.length <= n ->
 ∃ b, Jdy (λ i => some (i * sz, sz)) cs l = some b /\ b.length = n * sz /\ (∀ k, k < i * sz -> b[k]? = cs[k]?) /\ ∀ (m j : Nat) (v c : AV), (l.map (·.2))[m]? = some v -> v.cells[j]? = some c -> b[(i + m) * sz + j]? = some c
 | [], i, n, cs, _, _, t, _ => ⟨cs, rfl, t, λ _ _ => rfl, λ m j v c h => by simp at h⟩
 | (f, v) :: l, i, n, cs, q, A, t, u => by
  simp only [L0l, L0e, L1R, List.cons.injEq] at q; obtain ⟨rfl, q⟩ := q
  obtain ⟨o, d⟩ := A (f, v) (by simp)
  simp only at o d
  simp only [L0e] at u
  have E : f * sz + sz <= cs.length := by rw [t, <- L13]; exact L0y _ (by omega)
  obtain ⟨b, B, C, z, D⟩ := JmD y l (f + 1) n (cs.take (f * sz) ++ v.cells ++ cs.drop (f * sz + sz)) q (λ p hp => A p (by simp [hp])) (by simp [d]; omega) (by omega)
  refine ⟨b, ?_, C, λ k F => ?_, λ m j H c w s => ?_⟩
  . simp only [Jdy]; rw [if_pos ⟨d, E, o⟩]; exact B
  . rw [z k (by rw [L13]; omega), L0E, L0k (by simp; omega), L0j, if_pos F]
  . cases m with
    | zero =>
     simp at w; subst w
     have I : j < sz := by rw [<- d]; exact (L0a.1 s).1
     rw [L0R, z _ (by rw [L13]; omega), L0k (by simp; omega), L0o (by simp; omega)]
     simpa [L01, L0N (show f * sz <= cs.length by omega)] using s
    | succ m =>
     have := D m j H c (by simpa using w) s
     rw [show f + (m + 1) = f + 1 + m from by omega]; exact this
theorem Jna (a : Act) (y : Value) : a.put none y = a := rfl
theorem JqD {id sz i n d : Nat} (h : Names (.own id sz i n) d) : d = id := by cases h; rfl
theorem Jok (hG : JaQ C.G) (h : Wit C E σ a w ρ Im M) {d R : Nat} (F : ∀ k, k < 16 -> C.pin (16 * R + k) = none) (D : Jbh (16 * R) E σ) (ao : Jbh (16 * R + 1) E σ) (hd : d < C.N) {o : Oper} (ho : o.dst = some d) (U : Op.low C.N o.op = true)
 {r : AV} {bl : List (Nat × Blk)} (s : newV P R o.op o.type E r bl) :
 ∃ y w' a9, (execOp a.eval o).run P w = .ok (.value y) w' /\ Wit C (upd E d r) (addS σ bl) (a.put o.dst y) w' a9 Im M := by
 have aa : ∀ x, x ∈ o.op.operands -> Rep w ρ Im (ev E x) (a.eval x) := λ x hx => Jb8 h.env (by rw [h.size]; exact JbP U hx)
 rw [ho]; obtain ⟨ad, op, ty, bd, aw, ax⟩ := o
 simp only at U s aa ho
 unfold newV at s
 split at s
 . obtain ⟨e, _, rfl, rfl⟩ := s
   exact ⟨_, w, _, rfl, Je8 hG h (F 0 (by omega)) D hd e _⟩
 . obtain ⟨e, _, rfl, rfl⟩ := s
   exact ⟨_, w, _, rfl, Je8 hG h (F 0 (by omega)) D hd e _⟩
 . -- alloc
   rename_i t
   split at s
   . rename_i e he; obtain ⟨S, ag, rfl, rfl⟩ := s
     have h1 := h.newNil hG (F 1 (by omega)) ao e (tsz P e) (dst := none) (v := .any) (y := undef) (by simp) (.im _ _ (.any _))
     have a4 : 16 * R + 1 ≠ 16 * R := by omega
     have h2 := JdO hG h1 (F 0 (by omega)) (d := d) (t := t) (sz := 1) (v := .own (16 * R + 1) (tsz P e) 0 0) (y := .slice none 0 0) (D.add a4 (by simp)) hd rfl rfl (by omega) (.ownNil _ _ (by simp)) (λ hn => by have := JqD hn; omega)
     exact ⟨_, _, _, by simp [execOp, Instr.alloc, JcO S, newVar, newRow], h2⟩
   . obtain ⟨z, S, V, hl, af, rfl, rfl⟩ := s
     have h2 := JdO hG h (F 0 (by omega)) D hd (t := t) V hl af (JeB z) (λ hn => Jhr hn)
     exact ⟨_, _, _, by simp [execOp, Instr.alloc, JcO S, newVar, newRow], h2⟩
 . -- box
   rename_i t x; obtain ⟨V, hl, af, rfl, rfl⟩ := s
   have h2 := JdO hG h (F 0 (by omega)) D hd (t := t) V hl af (aa x (by simp [Op.operands])) (D.ev x)
   exact ⟨_, _, _, by simp [execOp, Instr.box, newVar, newRow], h2⟩
 . -- buildSlice
   rename_i t f b
   obtain ⟨e, he, S, ⟨z, aj, au, Z⟩, ba, ac, L, rfl, rfl⟩ := s
   have K : b.toList.length = f := by have := congrArg List.length ac; simpa using this
   have hp := Jjd h.env b.toList λ p hp => by rw [h.size]; exact JbP U (by simp [Op.operands]; exact ⟨p.1, L0x.1 hp⟩)
   have a2 : ∀ v ∈ b.toList.map (λ p => ev E p.2), ¬ Names v (16 * R) := λ v s hn => by
    obtain ⟨p, _, rfl⟩ := L05.1 s; exact D.ev p.2 hn
   have av : ∀ B : List Value, B.length = f * tsz P e -> (∀ y ∈ B, y.oneCell' = true) -> ∃ u : Array Value, Instr.fill (λ i => some (i * tsz P e, tsz P e)) B.toArray (b.map λ (i, x) => (i, a.eval x)).toList = some u /\ u.size = f * tsz P e /\
    JgN w ρ Im ⟨e, tsz P e, b.toList.map λ p => ev E p.2⟩ u := λ B a8 W => by
    obtain ⟨bb, hf, ab, _, am⟩ := JmD S (b.toList.map λ p => (p.1, ev E p.2)) 0 f (List.replicate (f * tsz P e) .any)
     (by rw [L19, L0c, K, <- L1H, <- ac]; rfl) (λ p hp => by obtain ⟨q, hq, rfl⟩ := L05.1 hp; exact L q hq) (by simp) (by simp [K])
    have an : Reps w ρ Im (List.replicate (f * tsz P e) .any) B := ⟨by simp [a8], λ j c y hc _ => by
     rw [List.getElem?_replicate] at hc; split at hc <;> simp at hc; subst hc; exact .im _ _ (.any _)⟩
    obtain ⟨ak, A, O, ay⟩ := Jd1 _ _ _ _ _ hp hf an W
    refine ⟨ak.toArray, by simpa using A, by simp [<- O.1, ab], ?_, ?_, λ i v j c s hc => ?_⟩
    . intro v s; obtain ⟨p, hp, rfl⟩ := L05.1 s; exact (L p hp).2
    . simp [K, <- O.1, ab]
    . have I := am i j v c (by simpa [L19] using s) hc
      rw [L0p] at I
      have J : i * tsz P e + j < ak.length := by rw [<- O.1]; exact (L0a.1 I).1
      exact ⟨ak[i * tsz P e + j], by simp [J], ay _ (L1w J), O.2 _ c _ I (L08 J)⟩
   have al : ∀ u : Array Value, u.size = f * tsz P e -> JgN w ρ Im ⟨e, tsz P e, b.toList.map λ p => ev E p.2⟩ u ->
    Wit C (upd E d (.own (16 * R) (tsz P e) 0 f)) (addS σ [(16 * R, ⟨e, tsz P e, b.toList.map λ p => ev E p.2⟩)]) (a.put (some d) (.slice (some ⟨w.heap.size, 0, none⟩) f f)) (w.alloc (.cells u e)) (updR ρ (16 * R) (some w.heap.size)) Im M := λ u ap T => by
    refine h.newBlock hG (F 0 (by omega)) D (k := ⟨e, tsz P e, _⟩) T a2 (L1s.1 S) (dst := some d) (λ _ e => by cases e; exact hd) ?_
    exact .own (16 * R) (tsz P e) f w.heap.size f u e (by simp) (L09 _) (by simp only [maxLen]; have := Nat.le_mul_of_pos_right f S; omega) (JeT (World.alloc_heap_new w _)) ap (L1s.1 S)
   by_cases h0 : f * tsz P e = 0
   . have ar : f = 0 := by rcases Nat.mul_eq_zero.1 h0 with h' | h'; exact h'; omega
     obtain ⟨u, A, I, T⟩ := av [] (by simp [h0]) (by simp)
     refine ⟨_, _, _, ?_, al u I T⟩
     have a6 : b = #[] := by rw [<- L1Q (xs := b), L0T (K.trans ar)]
     subst a6; subst ar
     simp [Instr.fill] at A; subst A
     simp [execOp, Instr.buildSlice, run_underlying (JbJ he), Jat S, Instr.fill, newRow, Array.range_zero']
   . -- the zero value's cells are overwritten
     obtain ⟨B, ah, Q, W, _⟩ := Value.cells_ofC au
     have ai : B.length = tsz P e := by rw [<- Q]; exact Z
     obtain ⟨u, A, I, T⟩ := av ((List.range (f * tsz P e)).map λ k => B[k % B.length]!) (by simp) (λ y hy => by
      obtain ⟨k, _, rfl⟩ := L05.1 hy
      have J : k % B.length < B.length := L1p _ (by omega)
      rw [getElem!_pos B _ J]; exact W _ (L1w J))
     refine ⟨_, _, _, ?_, al u I T⟩
     have ae : (Array.range (f * tsz P e)).map (B.toArray[· % B.toArray.size]!) = ((List.range (f * tsz P e)).map λ k => B[k % B.length]!).toArray := by
      rw [<- List.toArray_range, List.map_toArray]; congr 1; apply L0S; intro k _; simp
     have a3 : ¬ (f * tsz P e > 2 ^ 24) := by simp; omega
     simp only [execOp, Instr.buildSlice, Sem.run_bind, run_underlying (JbJ he) w, Result.andThen_ok, Jat S w, a3, if_false, h0, JcO aj w, Sem.run_pure, ah, ae, A, newRow, run_newObj_alloc]
 . -- makeSlice
   rename_i t l c
   split at s
   . rename_i kl n kc m hl hc; obtain ⟨e, he, S, z, aj, V, Z, h0, a5, az, bc, rfl, rfl⟩ := s
     have X := aa l (by simp [Op.operands]); have H := aa c (by simp [Op.operands])
     rw [hl] at X; rw [hc] at H
     have X := X.v_inv; have H := H.v_inv
     obtain ⟨i, hi, a1, aq, a0⟩ := Jtw aj
     have hr := run_make (P := P) w t e i z (JbJ he) hi a1 kl kc n m h0 a5 (by rw [a0, Int.mul_comm]; exact az) (by omega)
     obtain ⟨B, ah, Q, W, a7⟩ := Value.cells_ofC V
     have ai : B.length = tsz P e := by rw [<- Q]; exact Z
     have ag : (madeCells z.cells (m.toNat * i.size)).size = m.toNat * tsz P e := by rw [size_madeCells, aq]
     refine ⟨.slice (some ⟨w.heap.size, 0, none⟩) n.toNat m.toNat, w.alloc (.cells (madeCells z.cells (m.toNat * i.size)) e), updR ρ (16 * R) (some w.heap.size), by simp [execOp, X, H, hr], ?_⟩
     refine h.newBlock hG (F 0 (by omega)) D (k := ⟨e, tsz P e, List.replicate n.toNat (ofC z)⟩) ?_ ?_ (L1s.1 S) (dst := some d) (λ _ e => by cases e; exact hd) ?_
     . refine ⟨λ v s => ?_, ?_, λ i' v j c' s H => ?_⟩
       . simp only [List.mem_replicate] at s; rw [s.2]; exact Z
       . rw [ag]; simp only [L2o]; exact L0y _ (by omega)
       . simp only [List.getElem?_replicate] at s
         split at s
         . rename_i J
           simp at s; subst s
           have hj : j < B.length := by rw [<- Q]; exact (L0a.1 H).1
           refine ⟨B[j], ?_, W _ (L1w hj), (a7 w ρ Im).2 j c' _ H (L08 hj)⟩
           simp only [madeCells, aq]
           have hb : i' * tsz P e + j < m.toNat * tsz P e := by
            have : (i' + 1) * tsz P e <= m.toNat * tsz P e := L0y _ (by omega)
            rw [L13] at this; omega
           have as : (i' * tsz P e + j) % tsz P e = j := by rw [Nat.add_comm, Nat.add_mul_mod_self_right]; exact Nat.mod_eq_of_lt (by omega)
           simp [hb, ah, ai, as, ai ▸ hj]
         . cases s
     . intro v s hn
       simp only [List.mem_replicate] at s; rw [s.2] at hn
       exact Jhr hn
     . exact .own (16 * R) (tsz P e) n.toNat w.heap.size m.toNat _ e (by simp) (by omega) (by simp only [maxLen]; omega) (JeT (World.alloc_heap_new w _)) ag (L1s.1 S)
   . exact s.elim
 . exact s.elim
variable {P : Program} {C : Fx} {w : World} {ρ : Nat -> Option Nat} {Im : Nat -> Prop} {M : Str} {E : Env} {σ : Jac} {a : Act}
theorem Rep.carry {w' : World} {d : Nat} {l : Option Nat} {v : AV} {y : Value} (h : Rep w ρ Im v y)
 (i : ∀ k, (∃ id, ρ id = some k) \/ Im k -> w'.heap[k]? = w.heap[k]?) (q : ¬ Names v d) : Rep w' (updR ρ d l) Im v y :=
 h.mono (λ _ h => h) (λ b o => i b (.inr o)) λ id f =>
  ⟨JaJ ρ d l id (λ e => q (e ▸ f)), λ b s c e p => ⟨c, by rw [i b (.inl ⟨id, s⟩)]; exact p, rfl⟩⟩
theorem Inv.adopt {w' : World} (h : Inv w ρ Im σ) (V : w.heap.size <= w'.heap.size) (H : ∀ k, (∃ id, ρ id = some k) \/ Im k -> w'.heap[k]? = w.heap[k]?) {d : Nat} {k : Blk} {g : Nat}
 (D : Jbh d E σ) (Q : ∀ id, ρ id ≠ some g) (J : ¬ Im g) (X : k.sz ≠ 0)
 {cur : Array Value} (S : (∃ O, w'.heap[g]? = some (.cells cur k.e O) /\ Mk O cur.size)) (T : JgN w' (updR ρ d (some g)) Im k cur) :
 Inv w' (updR ρ d (some g)) Im (updS σ d k) where
 nil := λ id y l f => by
  by_cases e : id = d
  . subst e; simp at f
  . rw [JaI _ _ _ _ e] at l; rw [JaJ _ _ _ _ e] at f; exact h.nil id y l f
 map := λ id y b l f p => by
  by_cases e : id = d
  . subst e; simp at l; subst l; exact absurd p X
  . rw [JaI _ _ _ _ e] at l; rw [JaJ _ _ _ _ e] at f
    obtain ⟨B, I, s, K, t⟩ := h.map id y b l f p
    refine ⟨B, I, by rw [H b (.inl ⟨id, f⟩)]; exact s, K, λ i m U => ?_⟩
    obtain ⟨v, R, u⟩ := t i m U
    exact ⟨v, R, u.carry H λ L => D.2.2 id y l _ (L02 R) (.tup _ v d (by simp) L)⟩
 blk := λ id y b l f p => by
  by_cases e : id = d
  . subst e; simp at l f; subst l; subst f; exact ⟨cur, S, T⟩
  . rw [JaI _ _ _ _ e] at l; rw [JaJ _ _ _ _ e] at f
    obtain ⟨A, s, K, o, t⟩ := h.blk id y b l f p
    refine ⟨A, by rw [H b (.inl ⟨id, f⟩)]; exact s, K, o, λ i M j c P C => ?_⟩
    obtain ⟨x, W, q, u⟩ := t i M j c P C
    exact ⟨x, W, q, u.carry H λ L => D.2.2 id y l M (L02 P) (JdF (L02 C) L)⟩
 inj := λ i j b q z => by
  by_cases e1 : i = d <;> by_cases e2 : j = d
  . rw [e1, e2]
  . subst e1; rw [Jce] at q; rw [JaJ _ _ _ _ e2] at z; cases q; exact absurd z (Q j)
  . subst e2; rw [Jce] at z; rw [JaJ _ _ _ _ e1] at q; cases z; exact absurd q (Q i)
  . rw [JaJ _ _ _ _ e1] at q; rw [JaJ _ _ _ _ e2] at z; exact h.inj i j b q z
 live := λ i b f o => by
  by_cases e : i = d
  . subst e; simp at o
  . rw [JaJ _ _ _ _ e] at f; rw [JaI _ _ _ _ e] at o; exact h.live i b f o
 apart := λ i b f F => by
  by_cases e : i = d
  . subst e; rw [Jce] at f; cases f; exact J F
  . rw [JaJ _ _ _ _ e] at f; exact h.apart i b f F
 low := λ b F => L0Q (h.low b F) V
def Jeq (σ : Jac) (x : AV) (K : Nat -> List AV -> Prop) : Prop :=
 match x with
 | .sl sz es => K sz es
 | .v (.string s) => K 1 ((bI s).map Y)
 | .own id sz i n => ∃ k, σ id = some k /\ k.sz = sz /\ i + n <= k.es.length /\ K sz ((k.es.drop i).take n)
 | _ => False
def appT (P : Program) (t b : TypeId) (x : AV) : Bool := match x with
 | .v (.string _) => tstr P b
 | _ => b == t
def appV (P : Program) (op : Op) (E : Env) (σ : Jac) (K : Nat -> Nat -> Nat -> Blk -> Prop) : Prop :=
 match op with
 | .call { callee := .builtin .append, args, argTypes } => match args.toList, argTypes.toList with
  | [s, x], [t, f] => appT P t f (ev E x) = true /\ ∃ e, tel P t = some e /\ 0 < tsz P e /\ (∃ z, tz P e = some z /\ (ofC z).ok = true /\ (ofC z).cells.length = tsz P e) /\
   match ev E s with
   | .own id sz 0 n => sz = tsz P e /\ ∃ k, σ id = some k /\ k.sz = sz /\ k.e = e /\ n <= k.es.length /\ Jeq σ (ev E x) λ d b => (b ≠ [] -> d = sz) /\ (∀ e ∈ b, e.ok = true /\ e.cells.length = sz) /\
    (n + b.length) * tby P e <= 140737488355328 /\ n + b.length <= 4611686018427387904 /\ K id sz (n + b.length) ⟨e, sz, k.es.take n ++ b⟩
   | _ => False
  | _, _ => False
 | _ => False
theorem Jfk (z : Inv w ρ Im σ) {x : AV} {y : Value} {K : Nat -> List AV -> Prop} (h : Jeq σ x K) (t : Rep w ρ Im x y) :
 ∃ sz xs, K sz xs /\ ((∃ d cap, y = .slice d xs.length cap /\ (∀ s, x ≠ .v (.string s)) /\ ((xs = [] /\ (∀ b, d = some b -> True)) \/ ∃ b o, d = some ⟨b, o, none⟩ /\ (∀ e ∈ xs, e.cells.length = sz) /\
  ∀ (i : Nat) (e : AV) (j : Nat) (c : AV), xs[i]? = some e -> e.cells[j]? = some c -> ∃ v, w.cell? ⟨b, o + i * sz + j, none⟩ = some v /\ v.oneCell' = true /\ Rep w ρ Im c v)) \/ ∃ s, x = .v (.string s) /\ y = .string s /\ sz = 1 /\ xs = (bI s).map Y) := by
 by_cases hstr : ∃ s, x = .v (.string s)
 . obtain ⟨s, rfl⟩ := hstr
   exact ⟨1, _, h, .inr ⟨s, rfl, t.v_inv, rfl, rfl⟩⟩
 have B : ∀ s, x ≠ .v (.string s) := λ s e => hstr ⟨s, e⟩
 suffices O : ∃ sz xs d cap, K sz xs /\ y = .slice d xs.length cap /\ ((xs = [] /\ (∀ b, d = some b -> True)) \/ ∃ b o, d = some ⟨b, o, none⟩ /\ (∀ e ∈ xs, e.cells.length = sz) /\
  ∀ (i : Nat) (e : AV) (j : Nat) (c : AV), xs[i]? = some e -> e.cells[j]? = some c -> ∃ v, w.cell? ⟨b, o + i * sz + j, none⟩ = some v /\ v.oneCell' = true /\ Rep w ρ Im c v) by
  obtain ⟨sz, xs, d, cap, J, T, U⟩ := O
  exact ⟨sz, xs, J, .inl ⟨d, cap, T, B, U⟩⟩
 unfold Jeq at h
 split at h
 . rename_i sz es
   cases t with
   | im _ _ t =>
    cases t with
    | slnil _ d cap => exact ⟨sz, [], d, cap, h, rfl, .inl ⟨rfl, λ _ _ => trivial⟩⟩
    | sl _ _ b o cap f V u F q C =>
     refine ⟨sz, es, _, cap, h, rfl, .inr ⟨b, o, rfl, F, λ i e j c p E => ?_⟩⟩
     have M := (L0a.1 p).1
     have S : j < sz := by rw [<- F e (L02 p)]; exact (L0a.1 E).1
     exact ⟨f i j, (q i j M S).1, (q i j M S).2, .im _ _ (C i e j c p E)⟩
 . exact absurd rfl (B _)
 . rename_i id sz i n; obtain ⟨k, X, rfl, Z, Q⟩ := h
   have A : ((k.es.drop i).take n).length = n := by rw [L01, L0g]; omega
   have P : ∀ b cap (d : Option Addr), ρ id = some b -> k.sz ≠ 0 -> (n ≠ 0 -> d = some ⟨b, i * k.sz, none⟩) -> y = .slice d n cap ->
    ∃ sz xs d cap, K sz xs /\ y = .slice d xs.length cap /\ ((xs = [] /\ (∀ b, d = some b -> True)) \/ ∃ b o, d = some ⟨b, o, none⟩ /\ (∀ e ∈ xs, e.cells.length = sz) /\
     ∀ (i : Nat) (e : AV) (j : Nat) (c : AV), xs[i]? = some e -> e.cells[j]? = some c -> ∃ v, w.cell? ⟨b, o + i * sz + j, none⟩ = some v /\ v.oneCell' = true /\ Rep w ρ Im c v) := by
    intro b cap d l D L hy
    refine ⟨k.sz, _, d, cap, Q, by rw [A]; exact hy, ?_⟩
    by_cases H : n = 0
    . subst H; exact .inl ⟨by simp, λ _ _ => trivial⟩
    . obtain ⟨I, R, F, O, E⟩ := z.blk id k b X l D
      refine .inr ⟨b, i * k.sz, L H, λ e p => F e (L16 (L0J p)), λ m e j c p q => ?_⟩
      rw [L0j] at p
      split at p
      . rw [L0D] at p
        obtain ⟨v, hv, J, t⟩ := E (i + m) e j c p q
        exact ⟨v, by rw [Jbs R, <- L1r]; exact hv, J, t⟩
      . cases p
   cases t with
   | im _ _ t => cases t
   | ownNil _ _ l => exact ⟨k.sz, [], none, 0, by simpa using Q, rfl, .inl ⟨rfl, λ _ _ => trivial⟩⟩
   | own _ _ _ b cap I e' l H u R O D => exact P b cap _ l D (by simp) rfl
   | ownAt _ _ _ _ b cap d M l H W D => exact P b cap d l D W rfl
 . exact h.elim
theorem Jfy {sz : Nat} {xs : List AV} {b o : Nat} (D : ∀ e ∈ xs, e.cells.length = sz)
 (h : ∀ (i : Nat) (e : AV) (j : Nat) (c : AV), xs[i]? = some e -> e.cells[j]? = some c -> ∃ v, w.cell? ⟨b, o + i * sz + j, none⟩ = some v /\ v.oneCell' = true /\ Rep w ρ Im c v) :
 ∃ d : List Value, d.length = xs.length * sz /\ (∀ (j : Nat) (v : Value), d[j]? = some v -> w.cell? ((⟨b, o, none⟩ : Addr).add j) = some v) /\ (∀ v ∈ d, v.oneCell' = true) /\
  ∀ (i : Nat) (e : AV) (j : Nat) (c : AV), xs[i]? = some e -> e.cells[j]? = some c -> ∃ v, d[i * sz + j]? = some v /\ Rep w ρ Im c v := by
 have A : ∀ k, k < xs.length * sz -> 0 < sz := λ k q => by
  rcases Nat.eq_zero_or_pos sz with u | u
  . subst u; simp at q
  . exact u
 have s : ∀ k, k < xs.length * sz -> ∃ v, w.cell? ⟨b, o + k, none⟩ = some v /\ v.oneCell' = true := λ k q => by
  have E := A k q
  have t : k / sz < xs.length := (L1S E).2 q
  have C : k % sz < xs[k / sz].cells.length := by rw [D _ (L1w t)]; exact L1p _ E
  obtain ⟨v, l, y, _⟩ := h (k / sz) xs[k / sz] (k % sz) _ (L08 t) (L08 C)
  refine ⟨v, ?_, y⟩
  rw [L0K, Nat.mul_comm, Nat.div_add_mod] at l; exact l
 refine ⟨(List.range (xs.length * sz)).map λ k => (w.cell? ⟨b, o + k, none⟩).getD undef, by simp, λ j v l => ?_, λ v l => ?_, λ i e j c z B => ?_⟩
 . have f := (L0a.1 l).1
   simp at f
   obtain ⟨H, p, _⟩ := s j f
   simp [f, p] at l; subst l; rw [Jbd]; exact p
 . obtain ⟨k, q, rfl⟩ := L05.1 l
   obtain ⟨H, p, y⟩ := s k (by simpa using q)
   simpa [p] using y
 . obtain ⟨v, l, _, F⟩ := h i e j c z B
   have t := (L0a.1 z).1
   have C : j < sz := by rw [<- D e (L02 z)]; exact (L0a.1 B).1
   have f : i * sz + j < xs.length * sz := by
    have : (i + 1) * sz <= xs.length * sz := L0y _ t
    rw [L13] at this; omega
   refine ⟨v, ?_, F⟩
   rw [L0K] at l
   simp [f, l]
variable {P : Program} {C : Fx} {w : World} {ρ : Nat -> Option Nat} {Im : Nat -> Prop} {M : Str} {E : Env} {σ : Jac} {a : Act}
def isId (id : Nat) : Nat -> Bool := λ i => i == id
def Jru (P : Program) (t : TypeId) : Prop := (∃ e, P.underlying t = some (.slice e)) \/ P.underlying t = some .string
theorem Jhl {w : World} {g : Nat} {cur : Array Value} {t : TypeId} {b : Nat × Nat} (c : w.heap[g]? = some (.cells cur t b)) (d : Mk b cur.size) {i : Nat} (hi : i < cur.size) : w.frozen? ⟨g, i, none⟩ = false := by
 rcases d with rfl | rfl
 . simp [World.frozen?, c]
 . simp [World.frozen?, c]; omega
theorem JhE {w : World} {g : Nat} {cur cur' : Array Value} {t : TypeId} (c : ∃ b, w.heap[g]? = some (.cells cur t b) /\ Mk b cur.size) (f : cur'.size = cur.size) : ∃ b, (w.setRow g cur').heap[g]? = some (.cells cur' t b) /\ Mk b cur'.size := by
 obtain ⟨b, c, d⟩ := c; exact ⟨b, setRow_heap w g cur cur' t b c, by rw [f]; exact d⟩
theorem Jdr (P : Program) (g o : Nat) (t : TypeId) : ∀ (vs : List Value) (i : Nat) (cur : Array Value) (w : World), (∃ c, w.heap[g]? = some (.cells cur t c) /\ Mk c cur.size) -> o + i + vs.length <= cur.size -> (∀ v ∈ vs, v.oneCell' = true) ->
 (storeCells ⟨g, o, none⟩ vs i).run P w = .ok () (w.setRow g (cur.toList.take (o + i) ++ vs ++ cur.toList.drop (o + i + vs.length)).toArray) := by
 intro vs
 induction vs with
 | nil =>
  intro i cur w b _ _
  obtain ⟨c, b, _⟩ := b
  have e : (cur.toList.take (o + i) ++ [] ++ cur.toList.drop (o + i + ([] : List Value).length)).toArray = cur := by simp
  rw [e, setRow_self w g cur t c b]; rfl
 | cons v h p =>
  intro i cur w b k q
  obtain ⟨c, b, s⟩ := b
  have u : o + i < cur.size := by simp at k; omega
  have f : (⟨g, o, none⟩ : Addr).add i = ⟨g, o + i, none⟩ := by unfold Addr.add; split <;> simp_all
  have l : (store ((⟨g, o, none⟩ : Addr).add i) v).run P w = .ok () (w.setRow g (cur.setIfInBounds (o + i) v)) := by
   have d : w.cell? ⟨g, o + i, none⟩ = some cur[o + i] := by simp [World.cell?, b, u]
   rw [f, run_store P w _ v _ (q v (by simp)), d]
   simp [Jhl b s u, setCell_eq_setRow w g (o + i) cur t c v b]
  have p := p (i + 1) (cur.setIfInBounds (o + i) v) (w.setRow g (cur.setIfInBounds (o + i) v)) (JhE ⟨c, b, s⟩ (by simp)) (by simp at k ⊢; omega) (λ x y => q x (by simp [y]))
  simp only [storeCells, Sem.run_bind, l, Result.andThen_ok, p, setRow_setRow]
  congr 3
  have e := list_seg_step cur.toList (o + i) v h (by simp at k ⊢; omega)
  simpa [Array.toList_setIfInBounds, L0K] using e
theorem JhL {P : Program} (w : World) (t o ty e : TypeId) (i : TypeInfo) (z : P.underlying t = some (.slice e)) (hi : P.info? e = some i) (k : Jru P o)
 (g n cap : Nat) (cur : Array Value) (s : ∃ l, w.heap[g]? = some (.cells cur e l) /\ Mk l cur.size)
 (y : Value) (m : Nat) (b : List Value) (f : ∀ v, (Builtin.lenOf y).run P v = .ok m v) (q : (Builtin.firstCells i.size m y).run P w = .ok b.toArray w) (p : ∀ u ∈ b, u.oneCell' = true)
 (c : n + m <= cap) (d : n * i.size + b.length <= cur.size) :
 (Builtin.append_ #[t, o] ty #[.slice (some ⟨g, 0, none⟩) n cap, y]).run P w =
  .ok (.slice (some ⟨g, 0, none⟩) (n + m) cap) (w.setRow g (cur.toList.take (n * i.size) ++ b ++ cur.toList.drop (n * i.size + b.length)).toArray) := by
 have h := Jdr P g (n * i.size) e b 0 cur w s (by simpa using d) p
 simp only [L0R] at h
 rcases k with ⟨A, k⟩ | k <;> simp [Builtin.append_, run_underlying z, run_underlying k, sizeOf, typeInfo, hi, f, c, q, Addr.add_lit, h]
theorem JeO {P : Program} (w : World) (t k ty e : TypeId) (i : TypeInfo) (z : Value) (u : P.underlying t = some (.slice e)) (hi : P.info? e = some i) (A : i.zero = some z) (h : Jru P k)
 (y : Value) (m : Nat) (b : List Value) (f : ∀ v, (Builtin.lenOf y).run P v = .ok m v) (q : (Builtin.firstCells i.size m y).run P w.drew = .ok b.toArray w.drew)
 (l : 0 < m) (p : (m : Int) <= 9223372036854775807) (o : m * i.bytes <= 281474976710656) :
 (Builtin.append_ #[t, k] ty #[.slice none 0 0, y]).run P w =
  .ok (.slice (some ⟨w.heap.size, 0, none⟩) m (grownCap w m 0 e)) (w.drew.alloc (.cells (b.toArray ++ Builtin.zeroCells z.cells (grownCap w m 0 e - m)) e)) := by
 have s : m ≠ 0 := by omega
 have d : ¬ (9223372036854775807 < (m : Int)) := by omega
 have c : ¬ (281474976710656 < Builtin.nextslicecap m 0 * i.bytes) := by rw [nextslicecap_zero l]; omega
 rcases h with ⟨B, h⟩ | h <;> simp [Builtin.append_, run_underlying u, run_underlying h, sizeOf, typeInfo, zeroValue, hi, A, f, s, d, c, Question.forced, run_firstCells_none, q, newRow, grownCap]
theorem Jek {P : Program} (w : World) (t u ty e : TypeId) (i : TypeInfo) (z : Value) (D : P.underlying t = some (.slice e)) (hi : P.info? e = some i) (E : i.zero = some z) (o : Jru P u)
 (b : Addr) (n cap : Nat) (c : List Value) (q : c.length = n * i.size) (f : ∀ j v, c[j]? = some v -> w.cell? (b.add j) = some v)
 (y : Value) (m : Nat) (d : List Value) (l : ∀ v, (Builtin.lenOf y).run P v = .ok m v) (B : (Builtin.firstCells i.size m y).run P w.drew = .ok d.toArray w.drew)
 (H : cap < n + m) (A : ((n + m : Nat) : Int) <= 9223372036854775807) (s : Builtin.nextslicecap (n + m) cap * i.bytes <= 281474976710656) :
 (Builtin.append_ #[t, u] ty #[.slice (some b) n cap, y]).run P w =
  .ok (.slice (some ⟨w.heap.size, 0, none⟩) (n + m) (grownCap w (n + m) cap e))
   (w.drew.alloc (.cells (c.toArray ++ d.toArray ++ Builtin.zeroCells z.cells (grownCap w (n + m) cap e - (n + m))) e)) := by
 have C : ¬ (n + m <= cap) := by omega
 have k : ¬ (9223372036854775807 < ((n : Int) + (m : Int))) := by omega
 have h : ¬ (281474976710656 < Builtin.nextslicecap (n + m) cap * i.bytes) := by omega
 have p := run_firstCells_some (P := P) w.drew i.size n b n cap c q (by simpa using f)
 rcases o with ⟨F, o⟩ | o <;>
  (simp [Builtin.append_, run_underlying D, run_underlying o, sizeOf, typeInfo, zeroValue, hi, E, l, C, k, h, Question.forced, B, p, newRow, grownCap]
   congr 2
   apply Array.ext'
   simp [L0E])
theorem JgW {P : Program} (size : Nat) (s : ByteArray) (v : World) : (Builtin.firstCells size s.size (.string s)).run P v = .ok ((bI s).map λ n => Value.int .u8 n).toArray v := by
 rw [Lib.run_firstCells_string]
 simp only [Lib.strCells, bI, L19]; rfl
theorem Jar (s : ByteArray) : (bI s).length = s.size := by rw [bI, L0c, L0z]; rfl
theorem Jlz {w' : World} {id g : Nat} {k : Blk} {cur : Array Value} (A : ∀ k, (∃ i, killR (isId id) ρ i = some k) \/ Im k -> w'.heap[k]? = w.heap[k]?)
 (D : ∀ e ∈ k.es, e.cells.length = k.sz) (F : k.es.length * k.sz <= cur.size)
 (h : ∀ (i : Nat) (e : AV) (j : Nat) (c : AV), k.es[i]? = some e -> e.cells[j]? = some c -> ∃ x, cur[i * k.sz + j]? = some x /\ x.oneCell' = true /\ Rep w ρ Im c x) :
 JgN w' (updR (killR (isId id) ρ) id (some g)) Im (k.kill (isId id)) cur := by
 obtain ⟨s, J, I⟩ := Blk.kill_sz (isId id) k
 refine ⟨by rw [s]; exact Blk.kill_len _ k D, by rw [s, I]; exact F, λ i e j c C B => ?_⟩
 obtain ⟨y, u, f, d, o, b⟩ := Blk.kill_get (isId id) k C B
 obtain ⟨x, H, z, t⟩ := h i y j u f d
 rw [s]
 refine ⟨x, H, z, Rep.carry (Rep.killR (p := isId id) ?_ λ q l => (b q l).2) A λ E => by have := (b id E).2; simp [isId] at this⟩
 rcases o with rfl | rfl
 . exact t
 . exact t.dk _
theorem Jjf {id : Nat} (h : C.pin id = none) : ∀ i b, C.pin i = some b -> isId id i = false := λ i b c => by
 simp only [isId, beq_eq_false_iff_ne]; rintro rfl; rw [h] at c; cases c
theorem Wit.renew (P : JaQ C.G) (h : Wit C E σ a w ρ Im M) {id d : Nat} (hd : d < C.N) {k : Blk} {cur : Array Value} {w' : World} {g : Nat}
 (T : Ext w (λ b => ∃ i, ρ i = some b) w') (o : (∃ i, isId id i = true /\ ρ i = some g) \/ w.heap.size <= g)
 (U : ∀ k, k ≠ g -> k < w.heap.size -> w'.heap[k]? = w.heap[k]?) (Q : (∃ O, w'.heap[g]? = some (.cells cur k.e O) /\ Mk O cur.size))
 (X : ∀ e ∈ k.es, e.cells.length = k.sz) (hs : k.es.length * k.sz <= cur.size)
 (W : ∀ (i : Nat) (e : AV) (j : Nat) (c : AV), k.es[i]? = some e -> e.cells[j]? = some c -> ∃ x, cur[i * k.sz + j]? = some x /\ x.oneCell' = true /\ Rep w ρ Im c x)
 {sz n cap : Nat} (Z : n <= cap) (q : cap <= maxLen) (L : cur.size = cap * sz) (hz : sz ≠ 0) (J : k.sz ≠ 0) (A : C.pin id = none) :
 Wit C (upd (JaU (isId id) E) d (.own id sz 0 n)) (updS (Jao (isId id) σ) id (k.kill (isId id))) (a.put (some d) (.slice (some ⟨g, 0, none⟩) n cap)) w' (updR (killR (isId id) ρ) id (some g)) Im M := by
 have K := Jjf A; have F := h.kill P (isId id) K
 have s : Jbh id (JaU (isId id) E) (Jao (isId id) σ) := JbZ (by simp [isId]) E σ
 have z : ∀ i, killR (isId id) ρ i ≠ some g := λ i f => by
  obtain ⟨S, f⟩ := Jae f
  rcases o with ⟨D, H, B⟩ | o
  . rw [h.inv.inj i D g f B, H] at S; cases S
  . have := h.inv.lt f; omega
 have u : ¬ Im g := λ p => by
  rcases o with ⟨D, _, B⟩ | o
  . exact h.inv.apart D g B p
  . have := h.inv.low g p; omega
 have l : ∀ k, (∃ i, killR (isId id) ρ i = some k) \/ Im k -> w'.heap[k]? = w.heap[k]? := λ k R => by
  refine U k (λ e => ?_) ?_
  . subst e; rcases R with ⟨i, f⟩ | p
    . exact z i f
    . exact u p
  . rcases R with ⟨i, f⟩ | p
    . exact F.inv.lt f
    . exact h.inv.low k p
 have I : (k.kill (isId id)).e = k.e := (Blk.kill_sz _ k).2.1
 refine h.step P T (F.inv.adopt T.size l s z u (by rw [(Blk.kill_sz _ k).1]; exact J) (by rw [I]; exact Q) (Jlz l X hs W)) ?_ (JbR a (some d) _) (Jbb ..) ?_ (λ i b f => ?_) (λ _ f => .inl f) (Jje F A) (λ _ h => h)
 . refine JaK.put (dst := some d) (tm := a) (E := JaU (isId id) E) (λ t y hy => (F.env t y hy).carry l (s.2.1 t)) ?_
   exact .own id sz n g cap cur k.e (by simp) Z q Q L hz
 . have : upd (JaU (isId id) E) d (.own id sz 0 n) C.N = JaU (isId id) E C.N := by simp only [upd]; rw [if_neg (by omega)]
   rw [this]; exact Jcv (h.gh _)
 . by_cases e : i = id
   . subst e; simp at f; subst f
     rcases o with ⟨D, V, B⟩ | o
     . obtain rfl : D = i := by simpa [isId] using V
       exact .inl B
     . exact .inr o
   . rw [JaJ _ _ _ _ e] at f; exact .inl (Jae f).2
theorem Wit.renewNil (c : JaQ C.G) (h : Wit C E σ a w ρ Im M) {id d : Nat} (i : d < C.N) (e sz : Nat) (b : C.pin id = none) :
 Wit C (upd (JaU (isId id) E) d (.own id sz 0 0)) (updS (Jao (isId id) σ) id ((⟨e, sz, []⟩ : Blk).kill (isId id))) (a.put (some d) (.slice none 0 0)) w (updR (killR (isId id) ρ) id none) Im M := by
 have f := h.kill c (isId id) (Jjf b)
 have : (⟨e, sz, []⟩ : Blk).kill (isId id) = ⟨e, sz, []⟩ := by simp [Blk.kill, AV.namesL]
 rw [this]
 exact f.newNil c b (JbZ (by simp [isId]) E σ) e sz (dst := some d) (λ _ e => by cases e; exact i) (.ownNil _ _ (by simp))
theorem JdR {t f e : TypeId} {ty : TypeId} (k : tel P t = some e) (l : 0 < tsz P e) (c : Jru P f) (d : Option Addr) (n cap : Nat) (h : n <= cap) (y : Value)
 (b : ∀ v, (Builtin.lenOf y).run P v = .ok 0 v) (i : ∀ v, (Builtin.firstCells (tsz P e) 0 y).run P v = .ok #[] v) (w : World) :
 (Builtin.append_ #[t, f] ty #[.slice d n cap, y]).run P w = .ok (.slice d n cap) w := by
 rcases c with ⟨o, c⟩ | c <;> cases d <;> simp [Builtin.append_, run_underlying (JbJ k), run_underlying c, Jat l, b, h, i, storeCells]
theorem Rep.own0_inv {id sz n : Nat} {y : Value} (h : Rep w ρ Im (.own id sz 0 n) y) : (y = .slice none 0 0 /\ n = 0 /\ ρ id = none) \/
 ∃ b cap cur e, y = .slice (some ⟨b, 0, none⟩) n cap /\ ρ id = some b /\ n <= cap /\ cap <= maxLen /\ (∃ f, w.heap[b]? = some (.cells cur e f) /\ Mk f cur.size) /\ cur.size = cap * sz /\ sz ≠ 0 := by
 cases h with
 | im _ _ h => cases h
 | ownNil _ _ c => exact .inl ⟨rfl, rfl, c⟩
 | own _ _ _ b cap cur e c k d i l o => exact .inr ⟨b, cap, cur, e, rfl, c, k, d, i, l, o⟩
 | ownAt _ _ _ _ _ _ _ p => omega
theorem Jit {P : Program} (size : Nat) (y : Value) (v : World) (h : ∀ v, (Builtin.lenOf y).run P v = .ok 0 v) : (Builtin.firstCells size 0 y).run P v = .ok #[] v := by
 have h := h v
 cases y with
 | slice b n c => cases b <;> simp [Builtin.firstCells, loadCells, loadCellsFrom]
 | string s =>
  simp [Builtin.firstCells]
 | _ => simp [Builtin.lenOf] at h
theorem Jpd (hG : JaQ C.G) (h : Wit C E σ a w ρ Im M) {d : Nat} (hd : d < C.N) {o : Oper} (ho : o.dst = some d) (hlow : Op.low C.N o.op = true)
 {K : Nat -> Nat -> Nat -> Blk -> Prop} (hv : appV P o.op E σ λ id sz n k => C.pin id = none /\ K id sz n k) :
 ∃ id sz n k y w' ρ', K id sz n k /\ (execOp a.eval o).run P w = .ok (.value y) w' /\ Wit C (upd (JaU (isId id) E) d (.own id sz 0 n)) (updS (Jao (isId id) σ) id (k.kill (isId id))) (a.put o.dst y) w' ρ' Im M := by
 have rep : ∀ x, x ∈ o.op.operands -> Rep w ρ Im (ev E x) (a.eval x) := λ x hx => Jb8 h.env (by rw [h.size]; exact JbP hlow hx)
 rw [ho]; obtain ⟨dst, op, ty, pos, after, guard⟩ := o
 simp only at hlow hv rep ho
 unfold appV at hv
 split at hv
 . rename_i args argTypes
   split at hv
   . rename_i s x t t' hargs htypes
     have ha' : args = #[s, x] := by rw [<- L1Q (xs := args), hargs]
     have ht' : argTypes = #[t, t'] := by rw [<- L1Q (xs := argTypes), htypes]
     subst ha'; subst ht'
     obtain ⟨hty, e, he, hz, ⟨z, hzv, hzok, hzl⟩, hv⟩ := hv
     obtain ⟨i, hi, hiz, his, hib⟩ := Jtw hzv
     have hs := rep s (by simp [Op.operands, Call.operands])
     have hx := rep x (by simp [Op.operands, Call.operands])
     split at hv
     . rename_i id sz n hes; rw [hes] at hs; obtain ⟨rfl, k, hk, hksz, rfl, hn, hsrc⟩ := hv
       obtain ⟨sz', xs, ⟨hsz', hok, hby, h63, hpn, hK⟩, hsrc⟩ := Jfk h.inv hsrc hx
       have hsrc2 : ∃ (news : List Value), Jru P t' /\ (∀ v, (Builtin.lenOf (a.eval x)).run P v = .ok xs.length v) /\
        (∀ v : World, v.heap = w.heap -> (Builtin.firstCells (tsz P k.e) xs.length (a.eval x)).run P v = .ok news.toArray v) /\ news.length = xs.length * tsz P k.e /\ (∀ v ∈ news, v.oneCell' = true) /\
        (∀ (i : Nat) (e : AV) (j : Nat) (c : AV), xs[i]? = some e -> e.cells[j]? = some c -> ∃ v, news[i * tsz P k.e + j]? = some v /\ Rep w ρ Im c v) /\ ∀ e ∈ xs, e.cells.length = tsz P k.e := by
        rcases hsrc with ⟨ad, cap, hy, hns, hmem⟩ | ⟨s', hxe, hy, h1, hxs⟩
        . have hty : t' = t := by
           unfold appT at hty
           split at hty
           . rename_i s' hxs'; exact absurd hxs' (hns s')
           . simpa using hty
          subst hty
          rcases hmem with ⟨h0, _⟩ | ⟨b', o', rfl, hxl, hxc⟩
          . subst h0
            refine ⟨[], .inl ⟨_, JbJ he⟩, λ v => by rw [hy]; simp [Builtin.lenOf], λ v _ => ?_, by simp, by simp, λ i e j c hi => by simp at hi, by simp⟩
            rw [hy]; cases ad <;> simp [Builtin.firstCells, loadCells, loadCellsFrom]
          . by_cases hx0 : xs = []
            . subst hx0
              refine ⟨[], .inl ⟨_, JbJ he⟩, λ v => by rw [hy]; simp [Builtin.lenOf], λ v _ => ?_, by simp, by simp, λ i e j c hi => by simp at hi, by simp⟩
              rw [hy]; simp [Builtin.firstCells, loadCells, loadCellsFrom]
            . have hsz' := hsz' hx0; subst hsz'
              obtain ⟨news, hnl, hnc, hn1, hnr⟩ := Jfy hxl hxc
              refine ⟨news, .inl ⟨_, JbJ he⟩, λ v => by rw [hy]; simp [Builtin.lenOf], λ v hv => ?_, hnl, hn1, hnr, hxl⟩
              rw [hy]
              exact run_firstCells_some v _ _ _ _ _ _ hnl λ j u hu => by rw [<- hnc j u hu]; exact World.cell?_of_block (by rw [hv])
        . rw [hxe] at hty
          have hu := JjA (P := P) (t := t') hty
          subst h1
          have hl : xs.length = s'.size := by rw [hxs, L0c, Jar]
          by_cases hx0 : xs = []
          . have h0 : s'.size = 0 := by rw [<- hl, hx0]; rfl
            subst hx0
            refine ⟨[], .inr hu, λ v => by rw [hy]; simp [Builtin.lenOf, h0], λ v _ => ?_, by simp, by simp, λ i e j c hi => by simp at hi, by simp⟩
            have := JgW (P := P) (tsz P k.e) s' v
            rw [h0] at this; rw [hy, L0r, this]
            have hb : bI s' = [] := L0T (by rw [Jar, h0])
            rw [hb]; rfl
          . have h1 := hsz' hx0
            refine ⟨(bI s').map λ n => Value.int .u8 n, .inr hu, λ v => by rw [hy]; simp [Builtin.lenOf, hl], λ v _ => by rw [hy, hl]; exact JgW _ s' v, by rw [L0c, Jar, hl, <- h1, L0U], λ v hv => ?_, λ i e j c hi hc => ?_, λ e he => ?_⟩
            . obtain ⟨n, _, rfl⟩ := L05.1 hv; rfl
            . rw [hxs, L07] at hi
              cases hn : (bI s')[i]? with
              | none => simp [hn] at hi
              | some n =>
               simp [hn] at hi; subst hi
               cases j with
               | succ j => simp at hc
               | zero =>
                simp at hc; subst hc
                exact ⟨.int .u8 n, by rw [<- h1]; simp [hn], .im _ _ (.v _)⟩
            . rw [hxs] at he
              obtain ⟨n, _, rfl⟩ := L05.1 he; rw [<- h1]; rfl
       obtain ⟨news, hu', hlen, hfirst, hnl, hn1, hnr, hxl⟩ := hsrc2
       have exec : ∀ v u w', (Builtin.append_ #[t, t'] ty #[a.eval s, a.eval x]).run P w = .ok u w' -> v = u -> (execOp a.eval { dst, op := .call { callee := .builtin .append, args := #[s, x], argTypes := #[t, t'] }, type := ty, pos, after, guard }).run P w = .ok (.value v) w' := by
        rintro v u w' hr rfl
        simp [execOp, resolve, invoke, builtin, hr]
       have hzc : z.cells.size = i.size := by
        obtain ⟨zs, h1, h2, _⟩ := Value.cells_ofC hzok
        rw [h1, his]; simp [<- h2, hzl]
       by_cases hx0 : xs = []
       . -- nothing is appended
         subst hx0; simp only [L0r, L0R, L0F] at hK hlen
         rcases hs.own0_inv with ⟨hsy, rfl, hρ⟩ | ⟨b, cap', cur, e', hsy, hρ, hnc, hcap, hb, hsz, hnz⟩
         . have hk0 := h.inv.nil id k hk hρ
           refine ⟨id, tsz P k.e, 0, _, _, w, updR (killR (isId id) ρ) id none, hK, exec _ _ _ (by rw [hsy]; exact JdR he hz hu' none 0 0 (L09 _) _ hlen (λ v => Jit _ _ v hlen) w) rfl, ?_⟩
           rw [hk0]; simp only [List.take_nil]
           exact h.renewNil hG hd k.e _ hpn
         . obtain ⟨cur2, hb2, hl, hs2, hc2⟩ := h.inv.blk id k b hk hρ (by omega)
           obtain ⟨rfl, rfl⟩ := JcX hb hb2
           refine ⟨id, tsz P k.e, n, _, _, w, updR (killR (isId id) ρ) id (some b), hK, exec _ _ _ (by rw [hsy]; exact JdR he hz hu' _ n cap' hnc _ hlen (λ v => Jit _ _ v hlen) w) rfl, ?_⟩
           refine h.renew hG hd (k := ⟨k.e, tsz P k.e, k.es.take n⟩) (g := b) (Ext.refl _ _) (.inl ⟨id, by simp [isId], hρ⟩) (λ _ _ _ => rfl) hb (λ e he => by rw [<- hksz]; exact hl e (L0J he)) ?_ (λ i e j c he hc => ?_) hnc hcap hsz hnz (L1s.1 hz) hpn
           . simp only [L01]; rw [hsz]; exact L0y _ (by omega)
           . simp only at he
             rw [L0j] at he
             split at he
             . have := hc2 i e j c he hc; rw [hksz] at this; exact this
             . cases he
       . -- elements
         have hm : 0 < xs.length := L1h.2 hx0
         have hcapm : ∀ old, grownCap w (n + xs.length) old k.e <= maxLen := λ old => grownCap_le_maxLen w _ old k.e (by simp only [maxLen]; omega)
         have hcapg : ∀ old, n + xs.length <= grownCap w (n + xs.length) old k.e := λ old => grownCap_ge w _ old k.e
         -- what the new block holds: 'olds', 'news'
         have hold : ∃ olds : List Value, olds.length = n * tsz P k.e /\ (∀ v ∈ olds, v.oneCell' = true) /\
          (∀ (b : Nat) (cur : Array Value), ρ id = some b -> (∃ fr, w.heap[b]? = some (.cells cur k.e fr) /\ Mk fr cur.size) -> olds = cur.toList.take (n * tsz P k.e)) /\
          ∀ (i : Nat) (e : AV) (j : Nat) (c : AV), i < n -> k.es[i]? = some e -> e.cells[j]? = some c -> ∃ v, olds[i * tsz P k.e + j]? = some v /\ v.oneCell' = true /\ Rep w ρ Im c v := by
          cases hρ : ρ id with
          | none =>
           have hk0 := h.inv.nil id k hk hρ; rw [hk0] at hn
           have : n = 0 := by simpa using hn
           subst this
           exact ⟨[], by simp, by simp, λ b cur hb => by simp at hb, λ i e j c hi => by omega⟩
          | some b =>
           obtain ⟨cur, hb, hl, hs2, hc2⟩ := h.inv.blk id k b hk hρ (by omega)
           rw [hksz] at hs2 hc2
           have hle : n * tsz P k.e <= cur.size := L0n (L0y _ hn) hs2
           refine ⟨cur.toList.take (n * tsz P k.e), by simp; omega, λ v hv => ?_, λ b' cur' hb' hcur' => ?_, λ i e j c hi hec hcc => ?_⟩
           . obtain ⟨q, hq⟩ := L0s.1 hv
             rw [L0j] at hq
             split at hq
             . rename_i hlt
               have hi' : q / tsz P k.e < k.es.length := L0Q ((L1S hz).2 hlt) hn
               have hj' : q % tsz P k.e < (k.es[q / tsz P k.e]).cells.length := by rw [hl _ (L1w hi'), hksz]; exact L1p _ hz
               obtain ⟨x', hx', h1', _⟩ := hc2 (q / tsz P k.e) _ (q % tsz P k.e) _ (L08 hi') (L08 hj')
               rw [Nat.mul_comm, Nat.div_add_mod] at hx'
               have : cur.toList[q]? = some x' := by simpa using hx'
               rw [this] at hq; cases hq; exact h1'
             . cases hq
           . cases hb'; obtain ⟨rfl, _⟩ := JcX hb hcur'; rfl
           . obtain ⟨x', hx', h1', hr'⟩ := hc2 i e j c hec hcc
             have hj : j < tsz P k.e := by rw [<- hksz, <- hl e (L02 hec)]; exact (L0a.1 hcc).1
             have hlt : i * tsz P k.e + j < n * tsz P k.e := by
              have : (i + 1) * tsz P k.e <= n * tsz P k.e := L0y _ hi
              rw [L13] at this; omega
             exact ⟨x', by rw [L0j, if_pos hlt]; simpa using hx', h1', hr'⟩
         obtain ⟨olds, hol, ho1, hoeq, hor⟩ := hold
         have hes : (k.es.take n).length = n := by rw [L01]; omega
         have hfill : ∀ rest : List Value, ∀ (i : Nat) (e : AV) (j : Nat) (c : AV), (k.es.take n ++ xs)[i]? = some e -> e.cells[j]? = some c ->
          ∃ x, (olds ++ news ++ rest)[i * tsz P k.e + j]? = some x /\ x.oneCell' = true /\ Rep w ρ Im c x := λ rest i e j c hec hcc => by
          by_cases hin : i < n
          . rw [L0k (by omega), L0j, if_pos hin] at hec
            obtain ⟨v, hv, h1', hr'⟩ := hor i e j c hin hec hcc
            exact ⟨v, by rw [L0E, L0k (L0a.1 hv).1]; exact hv, h1', hr'⟩
          . rw [L0o (by omega), hes] at hec
            obtain ⟨v, hv, hr'⟩ := hnr (i - n) e j c hec hcc
            have hlt := (L0a.1 hv).1
            have hidx : i * tsz P k.e + j - olds.length = (i - n) * tsz P k.e + j := by
             rw [hol, Nat.sub_mul]; have := L0y (tsz P k.e) (show n <= i by omega); omega
            have hge : olds.length <= i * tsz P k.e + j := by rw [hol]; have := L0y (tsz P k.e) (show n <= i by omega); omega
            exact ⟨v, by rw [L0E, L0o hge, hidx, L0k hlt]; exact hv, hn1 v (L02 hv), hr'⟩
         have hkl : ∀ e ∈ k.es.take n ++ xs, e.cells.length = tsz P k.e := λ e he => by
          rcases L0t.1 he with he | he
          . rcases hρ : ρ id with _ | b
            . rw [h.inv.nil id k hk hρ] at he; simp at he
            . obtain ⟨_, _, hl, _⟩ := h.inv.blk id k b hk hρ (by omega); rw [<- hksz]; exact hl e (L0J he)
          . exact hxl e he
         have hklen : (k.es.take n ++ xs).length = n + xs.length := by rw [L0b, hes]
         have grow : ∀ old, ∀ cur : List Value, cur = olds ++ news ++ (Builtin.zeroCells z.cells (grownCap w (n + xs.length) old k.e - (n + xs.length))).toList ->
          Wit C (upd (JaU (isId id) E) d (.own id (tsz P k.e) 0 (n + xs.length))) (updS (Jao (isId id) σ) id ((⟨k.e, tsz P k.e, k.es.take n ++ xs⟩ : Blk).kill (isId id)))
           (a.put (some d) (.slice (some ⟨w.heap.size, 0, none⟩) (n + xs.length) (grownCap w (n + xs.length) old k.e))) (w.drew.alloc (.cells cur.toArray k.e)) (updR (killR (isId id) ρ) id (some w.heap.size)) Im M := by
          rintro old cur rfl
          have hsize : (olds ++ news ++ (Builtin.zeroCells z.cells (grownCap w (n + xs.length) old k.e - (n + xs.length))).toList).toArray.size = grownCap w (n + xs.length) old k.e * tsz P k.e := by
           have := hcapg old
           simp only [L0V, L0b, hol, hnl, L0z, size_zeroCells, hzc, his, <- L1r]
           congr 1; omega
          refine h.renew hG hd (w' := w.drew.alloc (.cells (olds ++ news ++ (Builtin.zeroCells z.cells (grownCap w (n + xs.length) old k.e - (n + xs.length))).toList).toArray k.e)) (k := ⟨k.e, tsz P k.e, k.es.take n ++ xs⟩) (g := w.heap.size) ⟨rfl, rfl, rfl, by simp, λ q hq _ => Below.heap_alloc w.drew _ q hq⟩ (.inr (L09 _)) (λ q _ hq => Below.heap_alloc w.drew _ q hq) (JeT (heap_alloc_new w.drew _)) hkl ?_ ?_ (hcapg old) (hcapm old) hsize (L1s.1 hz) (L1s.1 hz) hpn
          . rw [hsize, hklen]; exact L0y _ (hcapg old)
          . intro i e j c hec hcc
            obtain ⟨v, hv, h1', hr'⟩ := hfill _ i e j c hec hcc
            exact ⟨v, by simpa using hv, h1', hr'⟩
         rcases hs.own0_inv with ⟨hsy, rfl, hρ⟩ | ⟨b, cap', cur, e', hsy, hρ, hncap, hcap, hb, hsz, hnz⟩
         . -- a nil slice
           have ho0 : olds = [] := L0T (by simpa using hol)
           have hr := JeO w t t' ty k.e i z (JbJ he) hi hiz hu' (a.eval x) xs.length news hlen (by rw [his]; exact hfirst _ rfl) hm (by omega) (by rw [hib]; simp only [L0p] at hby; omega)
           have hg := grow 0 _ rfl
           refine ⟨id, tsz P k.e, 0 + xs.length, _, _, _, updR (killR (isId id) ρ) id (some w.heap.size), hK, exec _ _ _ (by rw [hsy]; exact hr) rfl, ?_⟩
           simp only [ho0, L0p, L1T] at hg ⊢
           have ecells : (news ++ (Builtin.zeroCells z.cells (grownCap w xs.length 0 k.e - xs.length)).toList).toArray = news.toArray ++ Builtin.zeroCells z.cells (grownCap w xs.length 0 k.e - xs.length) := by
            apply L12.1; simp
           rw [ecells] at hg; exact hg
         . obtain ⟨cur2, hb2, hl, hs2, hc2⟩ := h.inv.blk id k b hk hρ (by omega)
           obtain ⟨rfl, rfl⟩ := JcX hb hb2
           have hoe := hoeq b cur hρ hb
           by_cases hroom : n + xs.length <= cap'
           . have hfit : n * i.size + news.length <= cur.size := by rw [his, hnl, hsz, <- L1r]; exact L0y _ hroom
             have hr := JhL w t t' ty k.e i (JbJ he) hi hu' b n cap' cur hb (a.eval x) xs.length news hlen (by rw [his]; exact hfirst _ rfl) hn1 hroom hfit
             rw [his, <- hoe] at hr
             refine ⟨id, tsz P k.e, n + xs.length, _, _, _, updR (killR (isId id) ρ) id (some b), hK, exec _ _ _ (by rw [hsy]; exact hr) rfl, ?_⟩
             have hsize : (olds ++ news ++ cur.toList.drop (n * tsz P k.e + news.length)).toArray.size = cap' * tsz P k.e := by
              rw [his] at hfit
              simp only [L0V, L0b, hol, L0g, L0z]; omega
             refine h.renew hG hd (w' := w.setRow b (olds ++ news ++ cur.toList.drop (n * tsz P k.e + news.length)).toArray) (k := ⟨k.e, tsz P k.e, k.es.take n ++ xs⟩) (g := b) ⟨rfl, rfl, rfl, by simp [World.setRow], λ q _ hq => setRow_other w b q _ (λ e => hq ⟨id, by rw [e]; exact hρ⟩)⟩ (.inl ⟨id, by simp [isId], hρ⟩) (λ q hq _ => setRow_other w b q _ hq)
              (JhE hb (by rw [hsize, hsz])) hkl ?_ ?_ hroom hcap hsize hnz (L1s.1 hz) hpn
             . rw [hsize, hklen]; exact L0y _ hroom
             . intro i e j c hec hcc
               obtain ⟨v, hv, h1', hr'⟩ := hfill _ i e j c hec hcc
               exact ⟨v, by simpa using hv, h1', hr'⟩
           . have holds : ∀ j v, olds[j]? = some v -> w.cell? ((⟨b, 0, none⟩ : Addr).add j) = some v := λ j v hv => by
              rw [Jbd, Jbs hb]; rw [hoe, L0j] at hv
              split at hv
              . simpa using hv
              . cases hv
             have hr := Jek w t t' ty k.e i z (JbJ he) hi hiz hu' ⟨b, 0, none⟩ n cap' olds (by rw [his]; exact hol) holds (a.eval x) xs.length news hlen (by rw [his]; exact hfirst _ rfl) (by omega) (by omega) (growslice_fits (by omega) (by rw [hib]; exact hby))
             have hg := grow cap' _ rfl
             refine ⟨id, tsz P k.e, n + xs.length, _, _, _, updR (killR (isId id) ρ) id (some w.heap.size), hK, exec _ _ _ (by rw [hsy]; exact hr) rfl, ?_⟩
             have ecells : (olds ++ news ++ (Builtin.zeroCells z.cells (grownCap w (n + xs.length) cap' k.e - (n + xs.length))).toList).toArray = olds.toArray ++ news.toArray ++ Builtin.zeroCells z.cells (grownCap w (n + xs.length) cap' k.e - (n + xs.length)) := by
              apply L12.1; simp
             rw [ecells] at hg; exact hg
     . exact hv.elim
   . exact hv.elim
 . exact hv.elim
variable {P : Program} {C : Fx} {w : World} {ρ : Nat -> Option Nat} {Im : Nat -> Prop} {M : Str} {E : Env} {σ : Jac} {a : Act}
def setC (e : AV) (j : Nat) (v : AV) : AV := if j = 0 /\ v.cells.length = e.cells.length then v else .agg (e.cells.take j ++ v.cells ++ e.cells.drop (j + v.cells.length))
theorem Jf2 {e : AV} {j : Nat} {v : AV} (h : j + v.cells.length <= e.cells.length) : (setC e j v).cells = e.cells.take j ++ v.cells ++ e.cells.drop (j + v.cells.length) := by
 unfold setC
 split
 . rename_i b; obtain ⟨rfl, c⟩ := b; simp [c]
 . rfl
def Jer (P : Program) (op : Op) (E : Env) (σ : Jac) (K : Nat -> Blk -> Prop) : Prop :=
 match op with
 | .store t x y => match ev E x with
  | .ptr id sz i j => ∃ k, σ id = some k /\ k.sz = sz /\ ∃ e, k.es[i]? = some e /\ (ev E y).ok = true /\ (ev E y).cells.length = tsz P t /\ 0 < tsz P t /\ j + tsz P t <= sz /\
   K id ⟨k.e, k.sz, k.es.set i (setC e j (ev E y))⟩
  | _ => False
 | _ => False
theorem Wit.turn (hG : JaQ C.G) (h : Wit C E σ a w ρ Im M) {id b : Nat} {k k' : Blk} {cur cur' : Array Value} (hk : σ id = some k) (p : ρ id = some b) (Z : (∃ L, w.heap[b]? = some (.cells cur k.e L) /\ Mk L cur.size))
 (O : cur'.size = cur.size) (he : k'.e = k.e) (hl : ∀ e ∈ k'.es, e.cells.length = k'.sz) (hs : k'.es.length * k'.sz <= cur'.size)
 (hf : ∀ (i : Nat) (e : AV) (j : Nat) (c : AV), k'.es[i]? = some e -> e.cells[j]? = some c -> ∃ x, cur'[i * k'.sz + j]? = some x /\ x.oneCell' = true /\ Rep w ρ Im c x) (V : k'.sz ≠ 0) :
 Wit C E (updS σ id k') a (w.setRow b cur') ρ Im M := by
 have l : ∀ q, q ≠ b -> (w.setRow b cur').heap[q]? = w.heap[q]? := λ q J => setRow_other w b q cur' J
 have z : ∃ L, (w.setRow b cur').heap[b]? = some (.cells cur' k.e L) /\ Mk L cur'.size := JhE Z O
 have u : ∀ {v : AV} {y : Value}, Rep w ρ Im v y -> Rep (w.setRow b cur') ρ Im v y := λ {v y} f =>
  Rep.mono (w := w) (w' := w.setRow b cur') (λ _ h => h) (λ q hI => l q (λ e => h.inv.apart id b p (e ▸ hI))) f λ i _ => ⟨rfl, λ q J s e2 o => by
   by_cases e : q = b
   . subst e; obtain ⟨rfl, rfl⟩ := JcX Z o; exact ⟨cur', z, O⟩
   . exact ⟨s, by rw [l q e]; exact o, rfl⟩⟩
 refine h.step hG ⟨rfl, rfl, rfl, by simp [World.setRow], λ q _ J => l q (λ e => J ⟨id, by rw [e]; exact p⟩)⟩ ?_ (λ t y hy => u (h.env t y hy)) rfl rfl rfl (λ i _ U => .inl U) (λ _ U => .inl U) h.pin (λ _ h => h)
 refine ⟨λ i P d f => ?_, λ i P q d f Q => ?_, λ i P q d f Q => ?_, h.inv.inj, λ i q f I => ?_, h.inv.apart, λ q J => ?_⟩
 . by_cases e : i = id
   . subst e; rw [p] at f; cases f
   . rw [JaI _ _ _ _ e] at d; exact h.inv.nil i P d f
 . by_cases e : i = id
   . subst e; simp at d; subst d; exact absurd Q V
   . rw [JaI _ _ _ _ e] at d
     obtain ⟨K, R, A, F, o⟩ := h.inv.map i P q d f Q
     have H : q ≠ b := λ S => e (h.inv.inj i id b (S ▸ f) p)
     exact ⟨K, R, by rw [l q H]; exact A, F, λ i m hm => by obtain ⟨v, hv, f⟩ := o i m hm; exact ⟨v, hv, u f⟩⟩
 . by_cases e : i = id
   . subst e; simp at d; subst d; rw [p] at f; cases f
     exact ⟨cur', by rw [he]; exact z, hl, hs, λ i e j c D B => by obtain ⟨x, X, T, f⟩ := hf i e j c D B; exact ⟨x, X, T, u f⟩⟩
   . rw [JaI _ _ _ _ e] at d
     obtain ⟨s, A, F, W, o⟩ := h.inv.blk i P q d f Q
     have H : q ≠ b := λ S => e (h.inv.inj i id b (S ▸ f) p)
     exact ⟨s, by rw [l q H]; exact A, F, W, λ i e j c D B => by obtain ⟨x, X, T, f⟩ := o i e j c D B; exact ⟨x, X, T, u f⟩⟩
 . by_cases e : i = id
   . subst e; simp at I
   . rw [JaI _ _ _ _ e] at I; exact h.inv.live i q f I
 . have := h.inv.low q J; simpa [World.setRow] using this
theorem Jme (hG : JaQ C.G) (h : Wit C E σ a w ρ Im M) {o : Oper} (F : Op.low C.N o.op = true)
 {K : Nat -> Blk -> Prop} (q : Jer P o.op E σ K) :
 ∃ id k w', K id k /\ (execOp a.eval o).run P w = .ok .skip w' /\ Wit C E (updS σ id k) a w' ρ Im M := by
 have Q : ∀ x, x ∈ o.op.operands -> Rep w ρ Im (ev E x) (a.eval x) := λ x Z => Jb8 h.env (by rw [h.size]; exact JbP F Z)
 obtain ⟨am, op, ty, ap, ae, af⟩ := o
 simp only at F q Q
 unfold Jer at q
 split at q
 . rename_i t x y
   have Z := Q x (by simp [Op.operands])
   have hy := Q y (by simp [Op.operands])
   split at q
   . rename_i id sz i j ah; rw [ah] at Z; obtain ⟨k, hk, rfl, e, he, aj, A, hz, V, hK⟩ := q
     obtain ⟨ys, ab, B, aa⟩ := JdG aj hy
     have ad : ∃ b, a.eval x = .pointer (some ⟨b, i * k.sz + j, none⟩) /\ ρ id = some b /\ k.sz ≠ 0 := by
      generalize a.eval x = ax at Z
      cases Z with
      | im _ _ h => cases h
      | ptr _ _ _ _ b D hz => exact ⟨b, rfl, D, hz⟩
     obtain ⟨b, ag, D, W⟩ := ad
     obtain ⟨f, hb, hl, hs, hc⟩ := h.inv.blk id k b hk D W
     have T : i < k.es.length := (L0a.1 he).1
     have L : e.cells.length = k.sz := hl e (L02 he)
     have ac : ys.length = tsz P t := by rw [<- B.1]; exact A
     have U : (i + 1) * k.sz <= k.es.length * k.sz := L0y _ T
     rw [L13] at U
     have H := Jdr P b (i * k.sz + j) k.e ys 0 f w hb (by omega) aa
     simp only [L0R] at H
     have J := Jf2 (e := e) (j := j) (v := ev E y) (by rw [A, L]; exact V)
     refine ⟨id, _, w.setRow b (f.toList.take (i * k.sz + j) ++ ys ++ f.toList.drop (i * k.sz + j + ys.length)).toArray, hK, ?_, ?_⟩
     . have ak : (a.eval y).cells.size = tsz P t := by rw [ab]; simpa using ac
       have O : (a.eval y).cells.toList = ys := by rw [ab]
       simp only [execOp, ag, Instr.storeAt, Instr.sureAddr, Sem.run_bind, Sem.run_pure, Result.andThen_ok, storeVar, Jat hz w, ak, ne_eq, not_true_eq_false, if_false, O, H]
     . refine h.turn hG hk D hb ?_ rfl ?_ ?_ ?_ W
       . simp only [L0V, L0b, L01, L0g, L0z]; omega
       . intro e' p
         rcases L2p p with h' | h'
         . exact hl e' h'
         . subst h'; rw [J]; simp only [L0b, L01, L0g, A, L]; omega
       . simp only [L24, L0V, L0b, L01, L0g, L0z]; omega
       . intro I e' l c p d
         show ∃ x, (f.toList.take (i * k.sz + j) ++ ys ++ f.toList.drop (i * k.sz + j + ys.length)).toArray[I * k.sz + l]? = some x /\ x.oneCell' = true /\ Rep w ρ Im c x
         simp only [List.getElem?_set] at p
         split at p
         . rename_i S; subst S; simp only [T, if_true, Option.some.injEq] at p; subst p
           have ai : l < k.sz := by
            have := (L0a.1 d).1
            rw [J] at this; simp only [L0b, L01, L0g, A, L] at this; omega
           rw [J] at d
           by_cases h1 : l < j
           . rw [L0E, L0k (by simp only [L01]; omega), L0j, if_pos h1] at d
             obtain ⟨v, q, u, z⟩ := hc i e l c he d
             exact ⟨v, by rw [L1g, L0E, L0k (by simp only [L01, L0z]; omega), L0j, if_pos (by omega)]; simpa using q, u, z⟩
           . by_cases h2 : l < j + tsz P t
             . rw [L0k (by simp only [L0b, L01]; omega), L0o (by simp only [L01]; omega)] at d
               have X : l - (e.cells.take j).length = l - j := by rw [L01, L0N (by omega)]
               rw [X] at d
               have s : l - j < ys.length := by omega
               refine ⟨ys[l - j], ?_, aa _ (L1w s), B.2 _ c _ d (L08 s)⟩
               rw [L1g, L0k (by simp only [L0b, L01, L0z]; omega), L0o (by simp only [L01, L0z]; omega)]
               have : i * k.sz + l - (f.toList.take (i * k.sz + j)).length = l - j := by rw [L01, L0z, L0N (by omega)]; omega
               rw [this]; exact L08 s
             . rw [L0o (by simp only [L0b, L01]; omega), L0D] at d
               have R : j + (ev E y).cells.length + (l - (e.cells.take j ++ (ev E y).cells).length) = l := by
                simp only [L0b, L01, A, L0N (show j <= e.cells.length by omega)]; omega
               rw [R] at d
               obtain ⟨v, q, u, z⟩ := hc i e l c he d
               refine ⟨v, ?_, u, z⟩
               rw [L1g, L0o (by simp only [L0b, L01, L0z]; omega), L0D]
               have : i * k.sz + j + ys.length + (i * k.sz + l - (f.toList.take (i * k.sz + j) ++ ys).length) = i * k.sz + l := by
                simp only [L0b, L01, L0z, L0N (show i * k.sz + j <= f.size by omega)]; omega
               rw [this]; simpa using q
         . rename_i S
           obtain ⟨v, q, u, z⟩ := hc I e' l c p d
           refine ⟨v, ?_, u, z⟩
           have ai : l < k.sz := by rw [<- hl e' (L02 p)]; exact (L0a.1 d).1
           have al := (L0a.1 p).1
           have an : I * k.sz + l < f.size := (L0m.1 q).1
           rw [L1g]
           rcases L1t I i with s | ao
           . have : (I + 1) * k.sz <= i * k.sz := L0y _ s
             rw [L13] at this
             rw [L0E, L0k (by simp only [L01, L0z]; omega), L0j, if_pos (by omega)]
             simpa using q
           . have : (i + 1) * k.sz <= I * k.sz := L0y _ (by omega)
             rw [L13] at this
             rw [L0o (by simp only [L0b, L01, L0z]; omega), L0D]
             have : i * k.sz + j + ys.length + (I * k.sz + l - (f.toList.take (i * k.sz + j) ++ ys).length) = I * k.sz + l := by
              simp only [L0b, L01, L0z, L0N (show i * k.sz + j <= f.size by omega)]; omega
             rw [this]; simpa using q
   . exact q.elim
 . exact q.elim
end Go.Vai

/- The account of a text in a form that is reckoned step by step. -/
import Derived.Test.YtmiahmpobpokmaaVq5
namespace Go.Vai
open Go.RowKit

def putK (dst : Option Nat) (K : Env → Store → Prop) (E : Env) (σ : Store) (v : AV) : Prop := K (updO E dst v) σ
def need (A K : Prop) : Prop := A ∧ K
def needV (A : Prop) (K : AV → Prop) (v : AV) : Prop := A ∧ K v
def needS (A : Prop) (K : Env → Store → Prop) (E : Env) (σ : Store) : Prop := A ∧ K E σ
def optV (o : Option AV) (K : AV → Prop) : Prop := match o with | some r => K r | none => False
def optPt (A : Prop) (o : Option AV) (K : AV → Prop) : Prop := match o with | some r => needV A K (.pt r 0) | none => False
def optU (A : Prop) (o : Option UInt8) (K : AV → Prop) : Prop := match o with | some c => needV A K (.v (.int .u8 c.toNat)) | none => False
/-- Two ways. -/
def branch (c : Prop) (X : Env → Store → Prop) (E : Env) (Y : Env → Store → Prop) (E' : Env) (σ : Store) : Prop := (c → X E σ) ∧ (¬ c → Y E' σ)

/-! ### What turns nothing -/

def eqlC (op : BinOp) (o : Option Bool) (K : AV → Prop) : Prop := match op, o with
  | .eql, some b => K (.v (.bool b))
  | .neq, some b => K (.v (.bool (!b)))
  | _, _ => False
def aggC (op : BinOp) (q : Option (List Nat)) (cs ds : List AV) (K : AV → Prop) : Prop := match q with
  | some ks => eqlC op (eqK ks cs ds) K
  | none => False

def intC (op : BinOp) (k : IntKind) (m : Int) (k' : IntKind) (n : Int) (K : AV → Prop) : Prop := match op with
  | .shl => needV (0 ≤ n) K (.v (.int k (k.wrap (m * 2 ^ (min n.toNat k.bits)))))
  | .shr => needV (0 ≤ n) K (.v (.int k (m.fdiv (2 ^ (min n.toNat k.bits)))))
  | .add => needV (k = k') K (.v (.int k (k.wrap (m + n))))
  | .sub => needV (k = k') K (.v (.int k (k.wrap (m - n))))
  | .mul => needV (k = k') K (.v (.int k (k.wrap (m * n))))
  | .quo => needV (k = k' ∧ n ≠ 0) K (.v (.int k (k.wrap (m.tdiv n))))
  | .rem => needV (k = k' ∧ n ≠ 0) K (.v (.int k (m.tmod n)))
  | .eql => needV (k = k') K (.v (.bool (m == n)))
  | .neq => needV (k = k') K (.v (.bool (m != n)))
  | .lss => needV (k = k') K (.v (.bool (decide (m < n))))
  | .leq => needV (k = k') K (.v (.bool (decide (m ≤ n))))
  | .gtr => needV (k = k') K (.v (.bool (decide (n < m))))
  | .geq => needV (k = k') K (.v (.bool (decide (n ≤ m))))
  | .and => needV (k = k') K (.v (.int k (bitsI .and k m n)))
  | .or => needV (k = k') K (.v (.int k (bitsI .or k m n)))
  | .xor => needV (k = k') K (.v (.int k (bitsI .xor k m n)))
  | .andNot => needV (k = k') K (.v (.int k (bitsI .andNot k m n)))

def strC (op : BinOp) (a b : ByteArray) (K : AV → Prop) : Prop := match op with
  | .add => needV (a.size + b.size ≤ 9223372036854775807) K (.v (.string (a ++ b)))
  | .eql => K (.v (.bool (a.toList == b.toList)))
  | .neq => K (.v (.bool (!(a.toList == b.toList))))
  | .lss => K (.v (.bool (Op.bytesLess a.toList b.toList)))
  | .leq => K (.v (.bool (Op.bytesLess a.toList b.toList || a.toList == b.toList)))
  | .gtr => K (.v (.bool (!(Op.bytesLess a.toList b.toList || a.toList == b.toList))))
  | .geq => K (.v (.bool (!Op.bytesLess a.toList b.toList)))
  | _ => False

def nilC2 (op : BinOp) (u : AV) (q : Option TypeId) (K : AV → Prop) : Prop := match op with
  | .eql => needV (u.full = true ∧ q.isSome = true) K (.v (.bool false))
  | .neq => needV (u.full = true ∧ q.isSome = true) K (.v (.bool true))
  | _ => False
def binC (P : Program) (op : BinOp) (t : TypeId) (a b : AV) (K : AV → Prop) : Prop :=
  match a, b with
  | .v (.int k m), .v (.int k' n) => intC op k m k' n K
  | .v (.string a), .v (.string b) => strC op a b K
  | .v (.bool a), .v (.bool b) => match op with
    | .eql => needV (tkind P t = some 1) K (.v (.bool (a == b)))
    | .neq => needV (tkind P t = some 1) K (.v (.bool (!(a == b))))
    | _ => False
  | .agg cs, .agg ds => aggC op (teq P t) cs ds K
  | u, .v (.slice none 0 0) => nilC2 op u (tel P t) K
  | _, _ => False

theorem intC_of {op : BinOp} {k k' : IntKind} {m n : Int} {K : AV → Prop} (h : intC op k m k' n K) : ∃ r, binI op k m k' n r ∧ K r := by
  cases op <;> simp only [intC, needV] at h <;> simp only [binI]
  all_goals first
    | exact ⟨_, ⟨h.1, rfl⟩, h.2⟩
    | exact ⟨_, ⟨h.1.1, h.1.2, rfl⟩, h.2⟩

theorem strC_of {op : BinOp} {a b : ByteArray} {K : AV → Prop} (h : strC op a b K) : ∃ r, binS op a b r ∧ K r := by
  cases op <;> simp only [strC, needV] at h <;> simp only [binS]
  all_goals first
    | exact ⟨_, ⟨h.1, rfl⟩, h.2⟩
    | exact ⟨_, rfl, h⟩

theorem binC_of {P : Program} {op : BinOp} {t : TypeId} {x y : Operand} {t' : TypeId} {E : Env} {σ : Store} {K : AV → Prop} (h : binC P op t (ev E x) (ev E y) K) : ∃ r, pureV P (.binOp op t x y t') E σ r ∧ K r := by
  simp only [pureV]
  unfold binC at h
  generalize ev E x = u at h
  generalize ev E y = v at h
  split at h
  · exact intC_of h
  · exact strC_of h
  · split at h
    · exact ⟨_, ⟨h.1, .inl ⟨rfl, rfl⟩⟩, h.2⟩
    · exact ⟨_, ⟨h.1, .inr ⟨rfl, rfl⟩⟩, h.2⟩
    · exact h.elim
  · unfold aggC at h
    split at h
    · rename_i ks hk
      unfold eqlC at h
      split at h
      · rename_i b hb; exact ⟨_, ⟨ks, hk, b, hb, .inl ⟨rfl, rfl⟩⟩, h⟩
      · rename_i b hb; exact ⟨_, ⟨ks, hk, b, hb, .inr ⟨rfl, rfl⟩⟩, h⟩
      · exact h.elim
    · exact h.elim
  · unfold nilC2 at h
    split at h
    · obtain ⟨⟨hf, ht⟩, hk⟩ := h
      refine ⟨.v (.bool false), ?_, hk⟩
      revert hf; unfold AV.full; split
      · intro hf; exact ⟨hf, ht, .inl ⟨rfl, rfl⟩⟩
      · intro hf; exact ⟨hf, ht, .inl ⟨rfl, rfl⟩⟩
      · intro hf; cases hf
    · obtain ⟨⟨hf, ht⟩, hk⟩ := h
      refine ⟨.v (.bool true), ?_, hk⟩
      revert hf; unfold AV.full; split
      · intro hf; exact ⟨hf, ht, .inr ⟨rfl, rfl⟩⟩
      · intro hf; exact ⟨hf, ht, .inr ⟨rfl, rfl⟩⟩
      · intro hf; cases hf
    · exact h.elim
  · exact h.elim

def partA (q : Option Bool) (s : Nat) (cs : List AV) (off : Nat) (K : AV → Prop) : Prop := match q with
  | some true => needV (0 < s ∧ off + s ≤ cs.length) K (.agg ((cs.drop off).take s))
  | some false => optV cs[off]? K
  | none => False
def partC (P : Program) (t : TypeId) (cs : List AV) (off : Nat) (K : AV → Prop) : Prop := partA (tagg P t) (tsz P t) cs off K

theorem partC_of {P : Program} {t : TypeId} {cs : List AV} {off : Nat} {K : AV → Prop} (h : partC P t cs off K) : ∃ r, partOf P t cs off r ∧ K r := by
  unfold partC partA at h
  unfold partOf
  split at h
  · rename_i ht; rw [ht]; exact ⟨_, ⟨h.1.1, h.1.2, rfl⟩, h.2⟩
  · rename_i ht; rw [ht]
    unfold optV at h
    split at h
    · rename_i r hr; exact ⟨r, hr, h⟩
    · exact h.elim
  · exact h.elim

def loadE (P : Program) (t : TypeId) (o : Option AV) (j : Nat) (K : AV → Prop) : Prop := match o with
  | some e => partC P t e.cells j K
  | none => False
def loadB (P : Program) (t : TypeId) (o : Option Blk) (sz i j : Nat) (K : AV → Prop) : Prop := match o with
  | some k => need (k.sz = sz) (loadE P t k.es[i]? j K)
  | none => False
def loadC (P : Program) (σ : Store) (t : TypeId) (a : AV) (K : AV → Prop) : Prop := match a with
  | .pt e j => partC P t e.cells j K
  | .ptr id sz i j => loadB P t (σ id) sz i j K
  | _ => False

theorem loadC_cells {P : Program} {σ : Store} {t : TypeId} {a : AV} {K : AV → Prop} (h : loadC P σ t a K) : ∃ r, (cellsAt σ a fun cs j => partOf P t cs j r) ∧ K r := by
  unfold loadC at h
  unfold cellsAt
  split at h
  · exact partC_of h
  · unfold loadB at h
    split at h
    · rename_i k hk
      obtain ⟨hsz, h⟩ := h
      unfold loadE at h
      split at h
      · rename_i e hee
        obtain ⟨r, hp, hK⟩ := partC_of h
        exact ⟨r, ⟨k, hk, hsz, e, hee, hp⟩, hK⟩
      · exact h.elim
    · exact h.elim
  · exact h.elim

def nilchkC (a : AV) (K : AV → Prop) : Prop := match a with
  | .pt e j => K (.pt e j)
  | .ptr id sz i j => K (.ptr id sz i j)
  | .clo g cs => K (.clo g cs)
  | _ => False

def pickC (c a b : AV) (K : AV → Prop) : Prop := match c with
  | .v (.bool c) => K (if c then a else b)
  | _ => False

/-- The zero of a type. -/
def tzA (P : Program) (t : TypeId) : Option AV := (tz P t).map ofC

def fillK (o : Option (List AV)) (K : AV → Prop) : Prop := match o with | some cs => K (.agg cs) | none => False
def placeF (P : Program) (fs : List (Nat × TypeId)) (i : Nat) : Option (Nat × Nat) := (fs[i]?).map fun f => (f.1, tsz P f.2)
def placeE (s i : Nat) : Option (Nat × Nat) := some (i * s, s)
def buildB (P : Program) (z : AV) (q : Option (List (Nat × TypeId))) (r : Option (Nat × TypeId)) (ps : List (Nat × AV)) (K : AV → Prop) : Prop := match q with
  | some fs => need (z.ok = true ∧ (fs.all fun f => decide (0 < tsz P f.2)) = true) (fillK (fillA (placeF P fs) z.cells ps) K)
  | none => match r with
    | some (_, e) => need (z.ok = true ∧ 0 < tsz P e) (fillK (fillA (placeE (tsz P e)) z.cells ps) K)
    | none => False
def buildC (P : Program) (z : Option AV) (q : Option (List (Nat × TypeId))) (r : Option (Nat × TypeId)) (ps : List (Nat × AV)) (K : AV → Prop) : Prop := match z with
  | some z => buildB P z q r ps K
  | none => False

theorem buildC_of {P : Program} {t : TypeId} {parts : Array (Nat × Operand)} {E : Env} {σ : Store} {K : AV → Prop} (h : buildC P (tzA P t) (tfld P t) (tarr P t) (parts.toList.map fun p => (p.1, ev E p.2)) K) :
    ∃ r, pureV P (.build t parts) E σ r ∧ K r := by
  unfold buildC at h
  split at h
  · rename_i z hz
    unfold tzA at hz
    obtain ⟨z0, hz0, rfl⟩ := Option.map_eq_some_iff.1 hz
    unfold buildB at h
    split at h
    · rename_i fs hfs
      obtain ⟨⟨h1, h2⟩, h⟩ := h
      unfold fillK at h
      split at h
      · rename_i cs hcs; exact ⟨.agg cs, ⟨z0, hz0, h1, .inl ⟨fs, hfs, h2, cs, hcs, rfl⟩⟩, h⟩
      · exact h.elim
    · split at h
      · rename_i m e hme
        obtain ⟨⟨h1, h2⟩, h⟩ := h
        unfold fillK at h
        split at h
        · rename_i cs hcs; exact ⟨.agg cs, ⟨z0, hz0, h1, .inr ⟨m, e, hme, h2, cs, hcs, rfl⟩⟩, h⟩
        · exact h.elim
      · exact h.elim
  · exact h.elim

def unC (op : UnOp) (a : AV) (K : AV → Prop) : Prop := match op, a with
  | .not, .v (.bool b) => K (.v (.bool (!b)))
  | .neg, .v (.int k n) => K (.v (.int k (k.wrap (0 - n))))
  | _, _ => False
def tund (P : Program) (t : TypeId) : Bool := (P.underlying t).isSome
def convC (u : Bool) (q : Option IntKind) (a : AV) (K : AV → Prop) : Prop := match q, a with
  | some k, .v (.int _ n) => needV (u = true) K (.v (.int k (k.wrap n)))
  | _, _ => False
def fldB (P : Program) (o : Option (Nat × TypeId)) (a : AV) (K : AV → Prop) : Prop := match o, a with
  | some (off, t), .pt e j => needV (0 < tsz P t) K (.pt e (j + off))
  | some (off, t), .ptr id sz i j => needV (0 < tsz P t) K (.ptr id sz i (j + off))
  | some (off, t), .agg cs => partC P t cs off K
  | _, _ => False
def fldC (P : Program) (q : Option (List (Nat × TypeId))) (f : Nat) (a : AV) (K : AV → Prop) : Prop := match q with
  | some fs => fldB P fs[f]? a K
  | none => False

def idxP (P : Program) (q : Option TypeId) (r : Option (Nat × TypeId)) (x : AV) (n : Int) (K : AV → Prop) : Prop := match q with
  | some e => match x with
    | .sl sz es => optPt (0 < sz ∧ tsz P e = sz ∧ 0 ≤ n) es[n.toNat]? K
    | .own id sz o l => needV (0 < sz ∧ tsz P e = sz ∧ 0 ≤ n ∧ n < (l : Int)) K (.ptr id sz (o + n.toNat) 0)
    | _ => False
  | none => match r, x with
    | some (m, e), .pt c j => needV (0 < tsz P e ∧ 0 ≤ n ∧ n < (m : Int)) K (.pt c (j + n.toNat * tsz P e))
    | some (m, e), .ptr id sz o j => needV (0 < tsz P e ∧ 0 ≤ n ∧ n < (m : Int)) K (.ptr id sz o (j + n.toNat * tsz P e))
    | _, _ => False
def idxAddrC (P : Program) (t : TypeId) (x i : AV) (K : AV → Prop) : Prop := match i with
  | .v (.int _ n) => idxP P (tel P t) (tarr P t) x n K
  | _ => False

theorem idxAddrC_of {P : Program} {t : TypeId} {x i : Operand} {E : Env} {σ : Store} {K : AV → Prop} (h : idxAddrC P t (ev E x) (ev E i) K) : ∃ r, pureV P (.indexAddr t x i) E σ r ∧ K r := by
  unfold idxAddrC at h
  simp only [pureV]
  generalize ev E x = u at h
  generalize ev E i = v at h
  split at h
  · rename_i k n
    unfold idxP at h
    split at h
    · rename_i e he
      split at h
      · rename_i sz es
        unfold optPt at h
        split at h
        · rename_i c hc
          obtain ⟨⟨h1, h2, h3⟩, h⟩ := h
          exact ⟨_, .inl ⟨e, he, h1, h2, h3, c, hc, rfl⟩, h⟩
        · exact h.elim
      · obtain ⟨⟨h1, h2, h3, h4⟩, h⟩ := h
        exact ⟨_, .inl ⟨e, he, h1, h2, h3, h4, rfl⟩, h⟩
      · exact h.elim
    · split at h
      · rename_i m e c j he
        obtain ⟨⟨h1, h3, h4⟩, h⟩ := h
        exact ⟨_, .inr ⟨m, e, he, h1, h3, h4, rfl⟩, h⟩
      · rename_i m e id sz o j he
        obtain ⟨⟨h1, h3, h4⟩, h⟩ := h
        exact ⟨_, .inr ⟨m, e, he, h1, h3, h4, rfl⟩, h⟩
      · exact h.elim
  · exact h.elim

def idxG (P : Program) (r : Option (Nat × TypeId)) (cs : List AV) (n : Int) (K : AV → Prop) : Prop := match r with
  | some (m, e) => need (0 < tsz P e ∧ 0 ≤ n ∧ n < (m : Int)) (partC P e cs (n.toNat * tsz P e) K)
  | none => False
def idxC (P : Program) (t : TypeId) (x i : AV) (K : AV → Prop) : Prop := match i, x with
  | .v (.int _ n), .v (.string s) => optU (tstr P t = true ∧ 0 ≤ n) s[n.toNat]? K
  | .v (.int _ n), .agg cs => idxG P (tarr P t) cs n K
  | _, _ => False

theorem idxC_of {P : Program} {t : TypeId} {x i : Operand} {E : Env} {σ : Store} {K : AV → Prop} (h : idxC P t (ev E x) (ev E i) K) : ∃ r, pureV P (.index t x i) E σ r ∧ K r := by
  unfold idxC at h
  simp only [pureV]
  generalize ev E x = u at h
  generalize ev E i = v at h
  split at h
  · rename_i k n s
    unfold optU at h
    split at h
    · rename_i c hc; exact ⟨_, ⟨h.1.1, h.1.2, c, hc, rfl⟩, h.2⟩
    · exact h.elim
  · rename_i k n cs
    unfold idxG at h
    split at h
    · rename_i m e he
      obtain ⟨⟨h1, h3, h4⟩, h⟩ := h
      obtain ⟨r, hp, hK⟩ := partC_of h
      exact ⟨r, ⟨m, e, he, h1, h3, h4, hp⟩, hK⟩
    · exact h.elim
  · exact h.elim

def boundA (E : Env) (x : Option Operand) (d : Nat) : AV := match x with
  | none => .v (.int .i64 d)
  | some y => ev E y
theorem boundA_of {E : Env} {x : Option Operand} {d : Nat} {k : IntKind} {n : Int} (h : boundA E x d = .v (.int k n)) (h0 : 0 ≤ n) {K : Nat → Prop} (hK : K n.toNat) : bound E x d K := by
  unfold boundA at h
  unfold bound
  split at h
  · cases h; simpa using hK
  · simp only [h]; exact ⟨h0, hK⟩

def cutE (P : Program) (q : Option TypeId) (u : Bool) (x lo hi : AV) (K : AV → Prop) : Prop := match x, lo, hi with
  | .sl sz es, .v (.int _ l), .v (.int _ h) => match q with
    | some e => needV (0 < sz ∧ tsz P e = sz ∧ 0 ≤ l ∧ l ≤ h ∧ h ≤ (es.length : Int)) K (.sl sz ((es.drop l.toNat).take (h.toNat - l.toNat)))
    | none => False
  | .own id sz o n, .v (.int _ l), .v (.int _ h) => match q with
    | some e => needV (0 < sz ∧ tsz P e = sz ∧ 0 ≤ l ∧ l ≤ h ∧ h ≤ (n : Int)) K (.own id sz (o + l.toNat) (h.toNat - l.toNat))
    | none => False
  | .v (.string s), .v (.int _ l), .v (.int _ h) => needV (u = true ∧ 0 ≤ l ∧ l ≤ h ∧ h ≤ (s.size : Int)) K (.v (.string (s.extract l.toNat h.toNat)))
  | _, _, _ => False
def lenN (x : AV) : Nat := match x with
  | .sl _ es => es.length
  | .own _ _ _ n => n
  | .v (.string s) => s.size
  | _ => 0

theorem cutE_of {P : Program} {t : TypeId} {E : Env} {σ : Store} {x : Operand} {lo hi : Option Operand} {K : AV → Prop} (h : cutE P (tel P t) (tstr P t) (ev E x) (boundA E lo 0) (boundA E hi (lenN (ev E x))) K) :
    ∃ r, pureV P (.slice t x lo hi none) E σ r ∧ K r := by
  unfold cutE at h
  simp only [pureV]
  split at h
  · rename_i sz es k l k' n hx hl hh
    split at h
    · rename_i e he
      obtain ⟨⟨h1, h2, h3, h4, h5⟩, h⟩ := h
      rw [hx] at hh; rw [hx]
      exact ⟨_, .inl ⟨e, he, es.length, rfl, boundA_of hh (by omega) (boundA_of hl h3 ⟨h1, h2, by omega, by omega, rfl⟩)⟩, h⟩
    · exact h.elim
  · rename_i id sz o m k l k' n hx hl hh
    split at h
    · rename_i e he
      obtain ⟨⟨h1, h2, h3, h4, h5⟩, h⟩ := h
      rw [hx] at hh; rw [hx]
      exact ⟨_, .inl ⟨e, he, m, rfl, boundA_of hh (by omega) (boundA_of hl h3 ⟨h1, h2, by omega, by omega, rfl⟩)⟩, h⟩
    · exact h.elim
  · rename_i s k l k' n hx hl hh
    obtain ⟨⟨h2, h3, h4, h5⟩, h⟩ := h
    rw [hx] at hh; rw [hx]
    exact ⟨_, .inr ⟨h2, s.size, rfl, boundA_of hh (by omega) (boundA_of hl h3 ⟨by omega, by omega, rfl⟩)⟩, h⟩
  · exact h.elim

def lenC (u : Bool) (q : Option TypeId) (x : AV) (K : AV → Prop) : Prop := match x with
  | .v (.string s) => needV (u = true) K (.v (.int .i64 (s.size : Int)))
  | .sl _ es => needV (q.isSome = true) K (.v (.int .i64 (es.length : Int)))
  | .own _ _ _ n => needV (q.isSome = true) K (.v (.int .i64 (n : Int)))
  | .v (.slice _ n _) => needV (q.isSome = true) K (.v (.int .i64 (n : Int)))
  | _ => False
def maxC (l : List AV) (K : AV → Prop) : Prop := match l with
  | [.v (.int k a), .v (.int _ b)] => K (.v (.int k (if b > a then b else a)))
  | _ => False
def minC (l : List AV) (K : AV → Prop) : Prop := match l with
  | [.v (.int k a), .v (.int _ b)] => K (.v (.int k (if b < a then b else a)))
  | _ => False
def extC (x : AV) (i : Nat) (K : AV → Prop) : Prop := match x with
  | .tup vs => optV vs[i]? K
  | _ => False

end Go.Vai

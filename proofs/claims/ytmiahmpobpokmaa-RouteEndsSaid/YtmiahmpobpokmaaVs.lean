/- The account of a text, step by step: operations, regions, texts. -/
import Derived.Test.YtmiahmpobpokmaaVr
namespace Go.Vai
open Go.RowKit

/-- Operations that turn nothing. -/
def pureC (P : Program) (op : Op) (E : Env) (σ : Store) (K : AV → Prop) : Prop := match op with
  | .move x => K (ev E x)
  | .assign x => K (ev E x)
  | .pick c x y => pickC (ev E c) (ev E x) (ev E y) K
  | .load t x => loadC P σ t (ev E x) K
  | .nilCheck x => nilchkC (ev E x) K
  | .binOp op t x y _ => binC P op t (ev E x) (ev E y) K
  | .build t parts => buildC P (tzA P t) (tfld P t) (tarr P t) (parts.toList.map fun p => (p.1, ev E p.2)) K
  | .unOp op _ x => unC op (ev E x) K
  | .convert src dst x => convC (tund P src) (tint P dst) (ev E x) K
  | .makeFunc (.func f) first cs => needV (first = #[]) K (.clo f (cs.toList.map (ev E)))
  | .fieldAddr s x f => (match ev E x with | .agg _ => False | _ => True) ∧ fldC P (tfld P s) f (ev E x) K
  | .field s x f => (match ev E x with | .agg _ => True | _ => False) ∧ fldC P (tfld P s) f (ev E x) K
  | .indexAddr t x i => idxAddrC P t (ev E x) (ev E i) K
  | .index t x i => idxC P t (ev E x) (ev E i) K
  | .extract x i => extC (ev E x) i K
  | .slice t x lo hi none => cutE P (tel P t) (tstr P t) (ev E x) (boundA E lo 0) (boundA E hi (lenN (ev E x))) K
  | .call { callee := .builtin .len, args, argTypes } => match args.toList, argTypes.toList with
    | [x], [t] => lenC (tstr P t) (tel P t) (ev E x) K
    | _, _ => False
  | .call { callee := .builtin .max, args, argTypes := _ } => maxC (args.toList.map (ev E)) K
  | .call { callee := .builtin .min, args, argTypes := _ } => minC (args.toList.map (ev E)) K
  | _ => False

theorem pureC_of {P : Program} {op : Op} {E : Env} {σ : Store} {K : AV → Prop} (h : pureC P op E σ K) : ∃ r, pureV P op E σ r ∧ K r := by
  unfold pureC at h
  split at h
  · exact ⟨_, rfl, h⟩
  · exact ⟨_, rfl, h⟩
  · unfold pickC at h
    split at h
    · rename_i c x y c' hc; refine ⟨_, ?_, h⟩; simp only [pureV, hc]
    · exact h.elim
  · exact loadC_cells h
  · unfold nilchkC at h
    split at h
    · rename_i hx; refine ⟨_, ?_, h⟩; simp only [pureV, hx]
    · rename_i hx; refine ⟨_, ?_, h⟩; simp only [pureV, hx]
    · rename_i hx; refine ⟨_, ?_, h⟩; simp only [pureV, hx]
    · exact h.elim
  · exact binC_of h
  · exact buildC_of h
  · rename_i op t x
    unfold unC at h
    split at h
    · rename_i hx; refine ⟨_, ?_, h⟩; simp only [pureV, hx]
    · rename_i hx; refine ⟨_, ?_, h⟩; simp only [pureV, hx]
    · exact h.elim
  · unfold convC at h
    split at h
    · rename_i hq hx; refine ⟨_, ?_, h.2⟩
      have := h.1
      simp only [tund, Option.isSome_iff_exists] at this
      simp only [pureV, hq, hx]; exact ⟨this, trivial⟩
    · exact h.elim
  · exact ⟨_, ⟨h.1, rfl⟩, h.2⟩
  · rename_i s x f
    obtain ⟨hn, h⟩ := h
    unfold fldC at h
    split at h
    · rename_i fs hfs
      unfold fldB at h
      split at h
      · rename_i off t e j hf hx; refine ⟨_, ?_, h.2⟩; simp only [pureV, hx]; exact ⟨fs, hfs, off, t, hf, h.1, rfl⟩
      · rename_i off t id sz i j hf hx; refine ⟨_, ?_, h.2⟩; simp only [pureV, hx]; exact ⟨fs, hfs, off, t, hf, h.1, rfl⟩
      · rename_i hf hx; rw [hx] at hn; exact hn.elim
      · exact h.elim
    · exact h.elim
  · rename_i s x f
    obtain ⟨hn, h⟩ := h
    unfold fldC at h
    split at h
    · rename_i fs hfs
      unfold fldB at h
      split at h
      · rename_i hf hx; rw [hx] at hn; exact hn.elim
      · rename_i hf hx; rw [hx] at hn; exact hn.elim
      · rename_i off t cs hf hx
        obtain ⟨r, hp, hK⟩ := partC_of h
        refine ⟨r, ?_, hK⟩; simp only [pureV, hx]; exact ⟨fs, hfs, off, t, hf, hp⟩
      · exact h.elim
    · exact h.elim
  · exact idxAddrC_of h
  · exact idxC_of h
  · unfold extC at h
    split at h
    · rename_i vs hx
      unfold optV at h
      split at h
      · rename_i r hr; refine ⟨r, ?_, h⟩; simp only [pureV, hx]; exact hr
      · exact h.elim
    · exact h.elim
  · exact cutE_of h
  · rename_i args ats
    split at h
    · rename_i x t ha hat
      unfold lenC at h
      simp only [pureV, ha, hat]
      split at h
      · rename_i s hx; exact ⟨_, .inl ⟨h.1, by rw [hx]⟩, h.2⟩
      · rename_i hx; exact ⟨_, .inr (.inl ⟨h.1, by rw [hx]⟩), h.2⟩
      · rename_i hx; exact ⟨_, .inr (.inl ⟨h.1, by rw [hx]⟩), h.2⟩
      · rename_i hx; exact ⟨_, .inr (.inl ⟨h.1, by rw [hx]⟩), h.2⟩
      · exact h.elim
    · exact h.elim
  · rename_i args ats
    unfold maxC at h
    split at h
    · rename_i hx; refine ⟨_, ?_, h⟩; simp only [pureV, hx]
    · exact h.elim
  · rename_i args ats
    unfold minC at h
    split at h
    · rename_i hx; refine ⟨_, ?_, h⟩; simp only [pureV, hx]
    · exact h.elim
  · exact h.elim

/-! ### What lays blocks -/

def newK (d : Nat) (K : Env → Store → Prop) (E : Env) (σ : Store) (v : AV) (bl : List (Nat × Blk)) : Prop := K (upd E d v) (addS σ bl)
def needN (A : Prop) (K : AV → List (Nat × Blk) → Prop) (v : AV) (bl : List (Nat × Blk)) : Prop := A ∧ K v bl

def nilC (P : Program) (d : Nat) (q : Option TypeId) (K : AV → List (Nat × Blk) → Prop) : Prop := match q with
  | some e => K (.own (16 * d) (tsz P e) 0 0) [(16 * d, ⟨e, tsz P e, []⟩)]
  | none => False
def allocC (P : Program) (d : Nat) (t : TypeId) (q : Option TypeId) (s : Nat) (z : Option AV) (K : AV → List (Nat × Blk) → Prop) : Prop := match q with
  | some e => needN (tz P t = some (.slice none 0 0) ∧ s = 1) K (.ptr (16 * d) 1 0 0) [(16 * d + 1, ⟨e, tsz P e, []⟩), (16 * d, ⟨t, 1, [.own (16 * d + 1) (tsz P e) 0 0]⟩)]
  | none => match z with
    | some z => needN (z.ok = true ∧ z.cells.length = s ∧ s ≠ 0) K (.ptr (16 * d) s 0 0) [(16 * d, ⟨t, s, [z]⟩)]
    | none => False
def boxC (d : Nat) (t : TypeId) (s : Nat) (x : AV) (K : AV → List (Nat × Blk) → Prop) : Prop := needN (x.ok = true ∧ x.cells.length = s ∧ s ≠ 0) K (.ptr (16 * d) s 0 0) [(16 * d, ⟨t, s, [x]⟩)]
def allOK (s : Nat) (xs : List AV) : Bool := xs.all fun e => e.ok && e.cells.length == s
def bsliceC (P : Program) (d : Nat) (q : Option TypeId) (len : Nat) (is : List Nat) (xs : List AV) (K : AV → List (Nat × Blk) → Prop) : Prop := match q with
  | some e => match tzA P e with
    | some z => needN (0 < tsz P e ∧ z.ok = true ∧ z.cells.length = tsz P e ∧ len * tsz P e ≤ 16777216 ∧ is = List.range len ∧ allOK (tsz P e) xs = true) K (.own (16 * d) (tsz P e) 0 len) [(16 * d, ⟨e, tsz P e, xs⟩)]
    | none => False
  | none => False
def msliceC (P : Program) (d : Nat) (q : Option TypeId) (l c : AV) (K : AV → List (Nat × Blk) → Prop) : Prop := match q, l, c with
  | some e, .v (.int _ n), .v (.int _ m) => match tzA P e with
    | some z => needN (0 < tsz P e ∧ z.ok = true ∧ z.cells.length = tsz P e ∧ 0 ≤ n ∧ n ≤ m ∧ m * (tby P e : Int) ≤ 281474976710656 ∧ m ≤ 4611686018427387904) K (.own (16 * d) (tsz P e) 0 n.toNat) [(16 * d, ⟨e, tsz P e, List.replicate n.toNat z⟩)]
    | none => False
  | _, _, _ => False

def newC (P : Program) (d : Nat) (op : Op) (ty : TypeId) (E : Env) (K : AV → List (Nat × Blk) → Prop) : Prop := match op with
  | .move (.const (.slice none 0 0)) => nilC P d (tel P ty) K
  | .assign (.const (.slice none 0 0)) => nilC P d (tel P ty) K
  | .alloc t => allocC P d t (tel P t) (tsz P t) (tzA P t) K
  | .box t x => boxC d t (tsz P t) (ev E x) K
  | .buildSlice t len parts => bsliceC P d (tel P t) len (parts.toList.map (·.1)) (parts.toList.map fun p => ev E p.2) K
  | .makeSlice t l c => msliceC P d (tel P t) (ev E l) (ev E c) K
  | _ => False

theorem tzA_some {P : Program} {t : TypeId} {z : AV} (h : tzA P t = some z) : ∃ z0, tz P t = some z0 ∧ ofC z0 = z := by
  unfold tzA at h; exact Option.map_eq_some_iff.1 h

theorem newC_of {P : Program} {d : Nat} {op : Op} {ty : TypeId} {E : Env} {K : AV → List (Nat × Blk) → Prop} (h : newC P d op ty E K) : ∃ v bl, newV P d op ty E v bl ∧ K v bl := by
  unfold newC at h
  split at h
  · unfold nilC at h
    split at h
    · rename_i e he; exact ⟨_, _, ⟨e, he, rfl, rfl⟩, h⟩
    · exact h.elim
  · unfold nilC at h
    split at h
    · rename_i e he; exact ⟨_, _, ⟨e, he, rfl, rfl⟩, h⟩
    · exact h.elim
  · rename_i t
    unfold allocC at h
    split at h
    · rename_i e he
      refine ⟨_, _, ?_, h.2⟩
      simp only [newV, he]; exact ⟨h.1.1, h.1.2, trivial, trivial⟩
    · rename_i he
      split at h
      · rename_i z hz
        obtain ⟨z0, hz0, rfl⟩ := tzA_some hz
        refine ⟨_, _, ?_, h.2⟩
        simp only [newV, he]; exact ⟨z0, hz0, h.1.1, h.1.2.1, h.1.2.2, trivial, rfl⟩
      · exact h.elim
  · exact ⟨_, _, ⟨h.1.1, h.1.2.1, h.1.2.2, rfl, rfl⟩, h.2⟩
  · unfold bsliceC at h
    split at h
    · rename_i e he
      split at h
      · rename_i z hz
        obtain ⟨z0, hz0, rfl⟩ := tzA_some hz
        obtain ⟨⟨h1, h2, h3, h4, h5, h6⟩, h⟩ := h
        refine ⟨_, _, ⟨e, he, h1, ⟨z0, hz0, h2, h3⟩, h4, h5, fun p hp => ?_, rfl, rfl⟩, h⟩
        have := (List.all_eq_true.1 h6) _ (List.mem_map.2 ⟨p, hp, rfl⟩)
        simpa using this
      · exact h.elim
    · exact h.elim
  · rename_i t l c
    unfold msliceC at h
    split at h
    · rename_i e k n k' m he hl hc
      split at h
      · rename_i z hz
        obtain ⟨z0, hz0, rfl⟩ := tzA_some hz
        obtain ⟨⟨h1, h2, h3, h4, h5, h6, h7⟩, h⟩ := h
        refine ⟨_, _, ?_, h⟩
        simp only [newV, hl, hc]; exact ⟨e, he, h1, z0, hz0, h2, h3, h4, h5, h6, h7, rfl, rfl⟩
      · exact h.elim
    · exact h.elim
  · exact h.elim

/-! ### Calls -/

def impK (x : AV × List (Nat × Blk)) (dst : Option Nat) (K : Env → Store → Prop) (E : Env) (σ : Store) : Prop := K (updO E dst x.1) (addS σ x.2)

/-- An operation that is spoken of by itself. -/
def semD (S : Sp) (dst : Option Nat) (op : Op) (ty : TypeId) (K : Env → Store → Prop) (E : Env) (σ : Store) : Prop := ∀ pos after guard, semV S ⟨dst, op, ty, pos, after, guard⟩ K E σ

/-- A call stands here ('L': or else it is spoken of by itself). -/
def callC (S : Sp) (kd bi : Bool) (nm : Nat) (g : Nat) (named : Bool) (args : List AV) (dst : Option Nat) (K : Env → Store → Prop) (E : Env) (σ : Store) (L : Prop) : Prop :=
  (∃ r, Ev S.P g args r ∧ (named = false ∨ r.flat = true) ∧ rlen r ≤ 16 ∧ (kd = true ∨ r.dn = false) ∧ impK (imp (16 * nm) r) dst K E σ) ∨ (bi = true ∧ L)

def yldK (S : Sp) (dst : Option Nat) (K : Env → Store → Prop) (E : Env) (σ : Store) (v g : AV) : Prop := K (updO (upd E S.N g) dst v) σ

def callF (S : Sp) (kd bi : Bool) (nm : Nat) (f : AV) (args : List AV) (dst : Option Nat) (K Kb : Env → Store → Prop) (E : Env) (σ : Store) (E' : Env) (σ' : Store) (args' : List AV) (f' : AV) (L : Prop) : Prop :=
  match f with
  | .yld l => need (bi = true ∧ l = S.yl ∧ AV.namesL allB args = false) (S.Y args (E S.N) (yldK S dst Kb E σ))
  | _ => match f' with
    | .clo g caps => callC S kd bi nm g (AV.namesL allB (args' ++ caps)) ((args' ++ caps).map (res σ')) dst K E' σ' L
    | _ => False

/-! ### Appends and stores -/

def appK (d : Nat) (K : Env → Store → Prop) (E : Env) (σ : Store) (id sz n : Nat) (k : Blk) : Prop := K (upd (killE (isId id) E) d (.own id sz 0 n)) (updS (killS (isId id) σ) id (k.kill (isId id)))
def srcC (σ : Store) (x : AV) : Option (Nat × List AV) := match x with
  | .sl sz es => some (sz, es)
  | .own id sz i n => (σ id).bind fun k => if k.sz = sz ∧ i + n ≤ k.es.length then some (sz, (k.es.drop i).take n) else none
  | _ => none
def needA (A : Prop) (K : Nat → Nat → Nat → Blk → Prop) (id sz n : Nat) (k : Blk) : Prop := A ∧ K id sz n k
def appA (P : Program) (q : Option TypeId) (s : AV) (ok : Nat → Option Blk) (src : Option (Nat × List AV)) (K : Nat → Nat → Nat → Blk → Prop) : Prop := match q, s, src with
  | some e, .own id sz 0 n, some (sz', xs) => match ok id, tzA P e with
    | some k, some z => needA (0 < tsz P e ∧ z.ok = true ∧ z.cells.length = tsz P e ∧ sz = tsz P e ∧ k.sz = sz ∧ k.e = e ∧ n ≤ k.es.length ∧ sz' = sz ∧ allOK sz xs = true ∧ (n + xs.length) * tby P e ≤ 140737488355328 ∧ n + xs.length ≤ 4611686018427387904) K
        id sz (n + xs.length) ⟨e, sz, k.es.take n ++ xs⟩
    | _, _ => False
  | _, _, _ => False

def appC (P : Program) (args : List Operand) (ats : List TypeId) (E : Env) (σ : Store) (K : Nat → Nat → Nat → Blk → Prop) : Prop := match args, ats with
  | [s, x], [t, t'] => need (t' = t) (appA P (tel P t) (ev E s) σ (srcC σ (ev E x)) K)
  | _, _ => False

theorem srcC_of {σ : Store} {x : AV} {K : Nat → List AV → Prop} {sz : Nat} {xs : List AV} (h : srcC σ x = some (sz, xs)) (hK : K sz xs) : srcEls σ x K := by
  unfold srcC at h
  unfold srcEls
  split at h
  · cases h; exact hK
  · rename_i id sz' i n
    obtain ⟨k, hk, h⟩ := Option.bind_eq_some_iff.1 h
    split at h
    · rename_i hc; cases h; exact ⟨k, hk, hc.1, hc.2, hK⟩
    · cases h
  · cases h

theorem appC_of {P : Program} {args : Array Operand} {ats : Array TypeId} {E : Env} {σ : Store} {K : Nat → Nat → Nat → Blk → Prop} (h : appC P args.toList ats.toList E σ K) :
    appV P (.call { callee := .builtin .append, args, argTypes := ats }) E σ K := by
  simp only [appV]
  revert h
  generalize args.toList = l
  generalize ats.toList = m
  intro h
  unfold appC at h
  split at h
  · obtain ⟨h0, h⟩ := h
    refine ⟨h0, ?_⟩
    unfold appA at h
    split at h
    · rename_i e id sz n sz' xs he hs hx
      split at h
      · rename_i k z hk hz
        obtain ⟨z0, hz0, rfl⟩ := tzA_some hz
        obtain ⟨⟨h1, h2, h3, h4, h5, h6, h7, h8, h9, h10, h11⟩, h⟩ := h
        refine ⟨e, he, h1, ⟨z0, hz0, h2, h3⟩, ?_⟩
        rw [hs]
        exact ⟨h4, k, hk, h5, h6, h7, srcC_of hx ⟨fun _ => h8, fun e he => by have := List.all_eq_true.1 h9 e he; simpa using this, h10, h11, h⟩⟩
      · exact h.elim
    · exact h.elim
  · exact h.elim

def stoE (P : Program) (t : TypeId) (k : Blk) (o : Option AV) (id sz i j : Nat) (v : AV) (K : Env → Store → Prop) (E : Env) (σ : Store) : Prop := match o with
  | some e => needS (k.sz = sz ∧ v.ok = true ∧ v.cells.length = tsz P t ∧ 0 < tsz P t ∧ j + tsz P t ≤ sz) K E (updS σ id ⟨k.e, k.sz, k.es.set i (setC e j v)⟩)
  | none => False
def stoB (P : Program) (t : TypeId) (o : Option Blk) (id sz i j : Nat) (v : AV) (K : Env → Store → Prop) (E : Env) (σ : Store) : Prop := match o with
  | some k => stoE P t k k.es[i]? id sz i j v K E σ
  | none => False
def storeC (P : Program) (t : TypeId) (x v : AV) (dst : Option Nat) (K : Env → Store → Prop) (E : Env) (σ : Store) : Prop := match x with
  | .ptr id sz i j => stoB P t (σ id) id sz i j v K (updO E dst (.v undef)) σ
  | _ => False

/-! ### Operations, regions, texts -/

def moveK (S : Sp) (kd : Bool) (dst : Option Nat) (ty : TypeId) (x : Operand) (K : Env → Store → Prop) (E : Env) (σ : Store) : Prop := match x with
  | .const (.slice none 0 0) => match tel S.P ty with
    | some e => match dst with
      | some d => nilC S.P (S.b + d) (some e) (newK d K (kE kd (S.b + d) E) (kS kd (S.b + d) σ))
      | none => False
    | none => putK dst K E σ (.v (.slice none 0 0))
  | x => putK dst K E σ (ev E x)

def newA (S : Sp) (kd : Bool) (dst : Option Nat) (op : Op) (ty : TypeId) (K : Env → Store → Prop) (E : Env) (σ : Store) : Prop := match dst with
  | some d => newC S.P (S.b + d) op ty (kE kd (S.b + d) E) (newK d K (kE kd (S.b + d) E) (kS kd (S.b + d) σ))
  | none => False

/-- Of the operations that are no others: those that turn nothing; else they are spoken of by themselves. -/
def restA (S : Sp) (dst : Option Nat) (op : Op) (ty : TypeId) (c : Nat) (K Kb : Env → Store → Prop) (E : Env) (σ : Store) : Prop := match c with
  | 0 => pureC S.P op E σ (putK dst K E σ)
  | 5 => semD S dst op ty Kb E σ
  | _ => False

def aopC (S : Sp) (kd bi : Bool) (dst : Option Nat) (op : Op) (ty : TypeId) (K Kb : Env → Store → Prop) (E : Env) (σ : Store) : Prop := match op with
  | .move x => moveK S kd dst ty x K E σ
  | .assign x => moveK S kd dst ty x K E σ
  | .alloc t => newA S kd dst (.alloc t) ty K E σ
  | .box t x => newA S kd dst (.box t x) ty K E σ
  | .buildSlice t len parts => newA S kd dst (.buildSlice t len parts) ty K E σ
  | .makeSlice t l c => newA S kd dst (.makeSlice t l c) ty K E σ
  | .call { callee := .value f, args, argTypes } =>
    callF S kd bi (S.b + dst.getD 99999) (ev E f) (args.toList.map (ev E)) dst K Kb E σ (kE kd (S.b + dst.getD 99999) E) (kS kd (S.b + dst.getD 99999) σ) (args.toList.map (ev (kE kd (S.b + dst.getD 99999) E))) (ev (kE kd (S.b + dst.getD 99999) E) f)
      (semD S dst (.call { callee := .value f, args, argTypes }) ty Kb E σ)
  | .call { callee := .builtin .append, args, argTypes } => match dst with
    | some d => appC S.P args.toList argTypes.toList E σ fun id sz n k => need (S.pin id = false) (appK d Kb E σ id sz n k)
    | none => False
  | .store t x y => storeC S.P t (ev E x) (ev E y) dst Kb E σ
  | op => restA S dst op ty (cls S.P op ty) K Kb E σ

/-- How yield is answered may be weakened. -/
def YMono (S : Sp) : Prop := ∀ args g (K K' : AV → AV → Prop), (∀ v g, K v g → K' v g) → S.Y args g K → S.Y args g K'

theorem semV_mono {S : Sp} {o : Oper} {K K' : Env → Store → Prop} {E : Env} {σ : Store} (hK : ∀ E σ, K E σ → K' E σ) (h : semV S o K E σ) : semV S o K' E σ :=
  fun C H n a w Kc Q hs hc => h C H n a w Kc Q hs fun E' σ' a' w' hk => hc E' σ' a' w' (hK _ _ hk)

theorem cls_move {P : Program} {ty : TypeId} (x : Operand) (hx : x = .const (.slice none 0 0) → False) : cls P (.move x) ty = 0 ∧ cls P (.assign x) ty = 0 := by
  cases x with
  | const v => cases v with
    | slice a n c => cases a <;> cases n <;> cases c <;> first | exact ⟨rfl, rfl⟩ | exact (hx rfl).elim
    | _ => exact ⟨rfl, rfl⟩
  | _ => exact ⟨rfl, rfl⟩

theorem aopC_of {S : Sp} (hY : YMono S) {kd bi : Bool} {o : Oper} {K K' Kb Kb' : Env → Store → Prop} {E : Env} {σ : Store} (hK : ∀ E σ, K E σ → K' E σ) (hKb : ∀ E σ, Kb E σ → Kb' E σ) (h : aopC S kd bi o.dst o.op o.type K Kb E σ) :
    aop S kd bi o K' Kb' E σ := by
  obtain ⟨dst, op, ty, pos, after, guard⟩ := o
  simp only at h
  have pure0 : ∀ {op : Op}, cls S.P op ty = 0 → pureC S.P op E σ (putK dst K E σ) → aop S kd bi ⟨dst, op, ty, pos, after, guard⟩ K' Kb' E σ := fun hc h => by
    obtain ⟨r, hr, hk⟩ := pureC_of h
    simp only [aop, hc]; exact ⟨r, hr, hK _ _ hk⟩
  have new1 : ∀ {op : Op}, cls S.P op ty = 1 → newA S kd dst op ty K E σ → aop S kd bi ⟨dst, op, ty, pos, after, guard⟩ K' Kb' E σ := fun hc h => by
    unfold newA at h
    split at h
    · obtain ⟨v, bl, hr, hk⟩ := newC_of h
      simp only [aop, hc]; exact ⟨_, rfl, v, bl, hr, hK _ _ hk⟩
    · exact h.elim
  have move : ∀ (x : Operand) (op : Op), op = .move x ∨ op = .assign x → moveK S kd dst ty x K E σ → aop S kd bi ⟨dst, op, ty, pos, after, guard⟩ K' Kb' E σ := fun x op hop h => by
    unfold moveK at h
    split at h
    · split at h
      · rename_i e he
        split at h
        · refine new1 ?_ ?_
          · rcases hop with rfl | rfl <;> simp [cls, he]
          · rcases hop with rfl | rfl <;> simpa only [newA, newC, he] using h
        · exact h.elim
      · rename_i he
        refine pure0 ?_ ?_
        · rcases hop with rfl | rfl <;> simp [cls, he]
        · rcases hop with rfl | rfl <;> exact h
    · rename_i hne
      refine pure0 ?_ ?_
      · have := cls_move (P := S.P) (ty := ty) x hne
        rcases hop with rfl | rfl
        · exact this.1
        · exact this.2
      · rcases hop with rfl | rfl <;> exact h
  unfold aopC at h
  split at h
  · exact move _ _ (.inl rfl) h
  · exact move _ _ (.inr rfl) h
  · exact new1 rfl h
  · exact new1 rfl h
  · exact new1 rfl h
  · exact new1 rfl h
  · rename_i f args ats
    show (∃ v bl, callV S _ _ _ _ _ v bl ∧ _) ∨ _
    unfold callF at h
    split at h
    · rename_i l hl
      obtain ⟨⟨h1, h2, h3⟩, h⟩ := h
      refine .inr (.inl ⟨h1, ?_⟩)
      simp only [yieldV, hl]
      exact ⟨h2, h3, hY _ _ _ _ (fun v g hk => hKb _ _ hk) h⟩
    · split at h
      · rename_i g caps hg
        rcases h with ⟨r, hΓ, h1, h2, h3, hk⟩ | ⟨hb, hl⟩
        · refine .inl ⟨_, _, ?_, hK _ _ hk⟩
          simp only [callV, hg]
          exact ⟨r, hΓ, h1, h2, h3, rfl, rfl⟩
        · exact .inr (.inr ⟨hb, semV_mono hKb (hl pos after guard)⟩)
      · exact h.elim
  · split at h
    · rename_i d
      have := appC_of h
      show ∃ d, _ ∧ appV _ _ _ _ _
      refine ⟨d, rfl, ?_⟩
      exact appV_mono (fun id sz n k hk => ⟨hk.1, hKb _ _ hk.2⟩) this
    · exact h.elim
  · rename_i t x y
    have hc : cls S.P (.store t x y) ty = 4 := rfl
    simp only [aop, hc, storeV]
    unfold storeC at h
    split at h
    · rename_i id sz i j hx
      unfold stoB at h
      split at h
      · rename_i k hk
        unfold stoE at h
        split at h
        · rename_i e he
          obtain ⟨⟨h1, h2, h3, h4, h5⟩, h⟩ := h
          rw [hx]; exact ⟨k, hk, h1, e, he, h2, h3, h4, h5, hKb _ _ h⟩
        · exact h.elim
      · exact h.elim
    · exact h.elim
  · unfold restA at h
    split at h
    · rename_i hc; exact pure0 hc h
    · rename_i hc
      simp only [aop, hc]
      exact semV_mono hKb (h pos after guard)
    · exact h.elim

end Go.Vai

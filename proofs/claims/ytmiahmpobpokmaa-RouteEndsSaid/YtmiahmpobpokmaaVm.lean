/- What is asked of a function's text, of abstract values alone. -/
import Derived.Test.YtmiahmpobpokmaaVl
import Derived.RangeFuncIn
namespace Go.Vai
open Go.RowKit

/-- A call of f with 'args' hands back 'r'. -/
def Ev (P : Program) (f : FuncId) (args : List AV) (r : AV) : Prop := FnOK P f fun a b => a = args ∧ b = r

/-- What a text may lean on: the base of its blocks' names; which blocks keep their place; how a call of yield is answered ('N': the slot of what has come so far). -/
structure Sp where
  P : Program
  N : Nat
  b : Nat
  pin : Nat → Bool
  rd : Bool := false
  yl : Nat
  Y : List AV → AV → (AV → AV → Prop) → Prop

def cls (P : Program) (op : Op) (ty : TypeId) : Nat :=
  match op with
  | .move (.const (.slice none 0 0)) => if (tel P ty).isSome then 1 else 0
  | .assign (.const (.slice none 0 0)) => if (tel P ty).isSome then 1 else 0
  | .move _ | .assign _ | .pick _ _ _ | .load _ _ | .nilCheck _ | .binOp _ _ _ _ _ | .build _ _ | .unOp _ _ _ | .makeFunc _ _ _ | .fieldAddr _ _ _ | .field _ _ _ | .indexAddr _ _ _ | .index _ _ _
  | .extract _ _ | .slice _ _ _ _ _ | .lookup _ _ _ _ => 0
  | .convert _ t _ => if (tel P t).isSome then 5 else 0
  | .alloc _ => 1
  | .box _ _ => 1
  | .buildSlice _ _ _ => 1
  | .makeSlice _ _ _ => 1
  | .call { callee := .value _, .. } => 2
  | .call { callee := .builtin .append, .. } => 3
  | .call { callee := .builtin .len, .. } => 0
  | .call { callee := .builtin .max, .. } => 0
  | .call { callee := .builtin .min, .. } => 0
  | .store _ _ _ => 4
  | .go _ => 9
  | .defer _ => 9
  | .select _ _ => 9
  | .panic _ => 9
  | .send _ _ => 9
  | .recv _ _ _ => 9
  | _ => 5

def own (d : Nat) : Nat → Bool := fun i => i / 16 == d
def kE (kd : Bool) (d : Nat) (E : Env) : Env := if kd then killE (own d) E else E
def kS (kd : Bool) (d : Nat) (σ : Store) : Store := if kd then killS (own d) σ else σ

mutual
/-- Does it name a block, seen to its bottom? -/
def AV.dn : AV → Bool
  | .any => false
  | .v _ => false
  | .yld _ => false
  | .own _ _ _ _ => true
  | .ptr _ _ _ _ => true
  | .mref _ => true
  | .agg cs => AV.dnL cs
  | .tup cs => AV.dnL cs
  | .clo _ cs => AV.dnL cs
  | .sl _ cs => AV.dnL cs
  | .mp cs => AV.dnL cs
  | .pt e _ => AV.dn e
  | .new _ _ es => AV.dnL es
  | .nptr _ _ es => AV.dnL es
def AV.dnL : List AV → Bool
  | [] => false
  | c :: cs => AV.dn c || AV.dnL cs
end

def callV (S : Sp) (kd : Bool) (nm : Nat) (op : Op) (E : Env) (σ : Store) (v : AV) (bl : List (Nat × Blk)) : Prop :=
  match op with
  | .call { callee := .value f, args, argTypes := _ } => match ev E f with
    | .clo g caps => ∃ r, Ev S.P g ((args.toList.map (ev E) ++ caps).map (res σ)) r ∧ (AV.namesL allB (args.toList.map (ev E) ++ caps) = false ∨ r.flat = true) ∧ rlen r ≤ 16 ∧ (kd = true ∨ r.dn = false) ∧
        v = (imp (16 * nm) r).1 ∧ bl = (imp (16 * nm) r).2
    | _ => False
  | _ => False

def yieldV (S : Sp) (op : Op) (E : Env) (_σ : Store) (K : AV → AV → Prop) : Prop :=
  match op with
  | .call { callee := .value f, args, argTypes := _ } => match ev E f with
    | .yld l => l = S.yl ∧ AV.namesL allB (args.toList.map (ev E)) = false ∧ S.Y (args.toList.map (ev E)) (E S.N) K
    | _ => False
  | _ => False

/-- The fence of all functions. -/
def FW (r : Option Nat) : Fence := { fn := fun _ => True, depth := none, alive := false, round := r }

theorem FW_wide : FW none = Fence.wide := rfl
theorem FW_round (l : Nat) : (FW none).inRound l = FW (some l) := rfl

theorem calls_FW {r : Option Nat} {n : Nat} {P : Program} {f : FuncId} {as : Array Value} {w : World} {R : Ending → World → Prop} (h : Calls P f as w R) : CallsIn (FW r) n P f as w R := by
  have h' : CallsIn Fence.wide n P f as w R := callsIn_wide.2 h
  exact h'

def Fx.rdl (C : Fx) : Option Nat := C.rd.map (·.1)

/-- How calls of yield are answered. -/
def YOK (S : Sp) (C : Fx) : Prop :=
  ∀ args g K, S.Y args g K → ∀ (w : World) (Im : Nat → Prop) (M : Str) (vs : List Value), (∀ b, Im b → b < w.heap.size ∧ ¬ M.m b) → (∀ b, M.m b → b < w.heap.size) → (∀ b, M.j b → Im b) → (∀ b, Im b → C.Im0 b ∨ C.w0.heap.size ≤ b) → IReps w Im args vs → C.G g M w → ∀ n,
    ∃ fn tmps assign body, (Instr.yield S.yl vs.toArray).run S.P w = .ok (.round S.yl fn tmps assign body) w ∧ RoundIn (FW C.rdl) n S.P S.yl fn tmps assign body w fun e w' =>
      ∃ v g' M', e = .returned v ∧ (∃ b, v = .bool b) ∧ K (.v v) g' ∧ (∀ p, AV.namesB p g' = false) ∧ C.G g' M' w' ∧ (∀ b, M'.m b → b < w'.heap.size ∧ (M.m b ∨ w.heap.size ≤ b)) ∧ (∀ b, M'.j b → Im b) ∧ Ext w M.m w'

/-- What a text leans on holds. -/
structure Holds (S : Sp) (C : Fx) : Prop where
  N : S.N = C.N
  G : GStable C.G
  Y : YOK S C
  mo : S.P.follows .mixedOrders = true
  pin : ∀ id b, C.pin id = some b → S.pin id = true
  low : ∀ id, S.pin id = true → id / 16 < S.b ∨ S.b + 100000 ≤ id / 16
  big : S.N ≤ 99999
  rdn : S.rd = false → C.rd = none

/-- An operation that is spoken of by itself. -/
def semV (S : Sp) (o : Oper) (K : Env → Store → Prop) (E : Env) (σ : Store) : Prop :=
  ∀ (C : Fx), Holds S C → ∀ (n : Nat) (a : Act) (w : World) (Kc : Act → World → Prop) (Q : Exit → Act → World → Prop), St C E σ a w →
    (∀ E' σ' a' w', K E' σ' → St C E' σ' a' w' → Kc a' w') → o.wpIn (FW C.rdl) n S.P a w Kc Q

def aop (S : Sp) (kd bi : Bool) (o : Oper) (K Kb : Env → Store → Prop) (E : Env) (σ : Store) : Prop :=
  match cls S.P o.op o.type with
  | 0 => ∃ v, pureV S.P o.op E σ v ∧ K (updO E o.dst v) σ
  | 1 => ∃ d, o.dst = some d ∧ ∃ v bl, newV S.P (S.b + d) o.op o.type (kE kd (S.b + d) E) v bl ∧ K (upd (kE kd (S.b + d) E) d v) (addS (kS kd (S.b + d) σ) bl)
  | 2 => (∃ v bl, callV S kd (S.b + o.dst.getD 99999) o.op (kE kd (S.b + o.dst.getD 99999) E) (kS kd (S.b + o.dst.getD 99999) σ) v bl ∧
        K (updO (kE kd (S.b + o.dst.getD 99999) E) o.dst v) (addS (kS kd (S.b + o.dst.getD 99999) σ) bl)) ∨
      (bi = true ∧ yieldV S o.op E σ fun v g => Kb (updO (upd E S.N g) o.dst v) σ) ∨ (bi = true ∧ semV S o Kb E σ)
  | 3 => ∃ d, o.dst = some d ∧ appV S.P o.op E σ fun id sz n k => S.pin id = false ∧ Kb (upd (killE (isId id) E) d (.own id sz 0 n)) (updS (killS (isId id) σ) id (k.kill (isId id)))
  | 4 => storeV S.P o.op E σ fun id k => Kb (updO E o.dst (.v undef)) (updS σ id k)
  | 5 => semV S o Kb E σ
  | _ => False

/-- An operation with its guard. -/
def gop (S : Sp) (kd bi : Bool) (ops : Array Oper) (o : Oper) (K Kb : Env → Store → Prop) (E : Env) (σ : Store) : Prop :=
  match o.guard with
  | none => aop S kd bi o K Kb E σ
  | some (j, want) => match (ops[j]?).bind (·.dst) with
    | none => False
    | some t => match E t with
      | .v (.bool b) => (b = want → aop S kd bi o K Kb (upd E t (.v (.bool want))) σ) ∧ (b = !want → K (updO (upd E t (.v (.bool !want))) o.dst (.v undef)) σ)
      | .v (.tuple _) => K (updO E o.dst (.v undef)) σ
      | _ => False

/-- j waits for i. -/
def waits (ops : Array Oper) : Nat → Nat → Nat → Bool
  | 0, _, _ => false
  | n + 1, j, i => match ops[j]? with
    | some o => o.after.any fun e => Region.binds .any e && (e.on == i || waits ops n e.on i)
    | none => false

/-- All others come before it or after it. -/
def bar (ops : Array Oper) (i : Nat) : Bool := (List.range ops.size).all fun j => j == i || waits ops ops.size i j || waits ops ops.size j i

/-- The names that these operations' new blocks may bear. -/
def regP (S : Sp) (l : List Oper) : Nat → Bool := fun i => (l.filterMap fun o => if cls S.P o.op o.type == 1 || cls S.P o.op o.type == 2 then some (S.b + o.dst.getD 99999) else none).contains (i / 16)
def struck (S : Sp) (dr : Bool) (l : List Oper) (K : Env → Store → Prop) (E : Env) (σ : Store) : Prop := if dr then K (killE (regP S l) E) (killS (regP S l) σ) else K E σ

/-- Operations one after the other, from place i on. -/
def awpOps (S : Sp) (dr : Bool) (ops : Array Oper) : Nat → List Oper → (Env → Store → Prop) → Env → Store → Prop
  | _, [], K => K
  | i, o :: rest, K => gop S (!dr) (!dr || bar ops i) ops o (awpOps S dr ops (i + 1) rest K) (struck S dr rest (awpOps S dr ops (i + 1) rest K))

def thenQ (K : Env → Store → Prop) (Q : Exit → Env → Store → Prop) : Exit → Env → Store → Prop
  | .normal => K
  | e => Q e

def blockQ (id : Nat) (Q : Exit → Env → Store → Prop) : Exit → Env → Store → Prop
  | .exit id' => if id' = id then Q .normal else Q (.exit id')
  | e => Q e

def scopeQ (Q : Exit → Env → Store → Prop) : Exit → Env → Store → Prop
  | .goto _ => fun _ _ => False
  | e => Q e

/-- A statement that is spoken of by itself. -/
def semC (S : Sp) (c : Code) (Q : Exit → Env → Store → Prop) (E : Env) (σ : Store) : Prop :=
  ∀ (C : Fx), Holds S C → ∀ (n : Nat) (R : Exit → Act → World → Prop), (∀ e E σ a w, Q e E σ → St C E σ a w → R e a w) → ∀ a w, St C E σ a w → c.wpIn (FW C.rdl) n S.P R a w

def awp (S : Sp) : Code → (Exit → Env → Store → Prop) → Env → Store → Prop
  | .skip, Q => Q .normal
  | .label _, Q => Q .normal
  | .seq a b, Q => awp S a (thenQ (awp S b Q) Q)
  | .region _ ops draw, Q => struck S draw ops.toList (awpOps S draw ops 0 ops.toList (Q .normal))
  | .cond c x y, Q => fun E σ => match ev E c with
    | .v (.bool b) => (b = true → awp S x Q E σ) ∧ (b = false → awp S y Q E σ)
    | _ => False
  | .block id c, Q => awp S c (blockQ id Q)
  | .scope c, Q => awp S c (scopeQ Q)
  | .loop c, Q => fun E σ => ∃ (I : Env → Store → Prop) (μ : Env → Store → Nat), I E σ ∧ ∀ E σ, I E σ → awp S c (thenQ (fun E' σ' => I E' σ' ∧ μ E' σ' < μ E σ) Q) E σ
  | .exit id, Q => Q (.exit id)
  | .ret, Q => Q .ret
  | .rangeFunc f ps as body, Q => semC S (.rangeFunc f ps as body) Q
  | _, _ => fun _ _ => False

/-! ### Checks on the text -/

def Oper.fits (P : Program) (N : Nat) (o : Oper) : Bool := o.dst.all (decide <| · < N) && Op.low N o.op && cls P o.op o.type != 9

def isNm (P : Program) (o : Oper) : Bool := cls P o.op o.type == 1 || cls P o.op o.type == 2

def drawOK (P : Program) (ops : Array Oper) : Bool :=
  (List.range ops.size).all fun i => match ops[i]? with
    | none => false
    | some oi => oi.after.all (fun e => !Region.binds .any e || decide (e.on < i)) && (match oi.guard with | some (g, _) => decide (g < i) | none => true) &&
      ((List.range ops.size).all fun j => decide (j ≤ i) || match ops[j]? with
        | none => false
        | some oj => (waits ops ops.size j i || (oi.apart ops oj && decide (cls P oi.op oi.type ≤ 2) && decide (cls P oj.op oj.type ≤ 2))) &&
            (!isNm P oi || !isNm P oj || (oi.dst.getD 99999 != oj.dst.getD 99999)))

def codeOK (P : Program) (N : Nat) : Code → Bool
  | .skip => true
  | .label _ => true
  | .seq a b => codeOK P N a && codeOK P N b
  | .region _ ops draw => ops.toList.all (Oper.fits P N) && (!draw || drawOK P ops)
  | .cond c x y => Operand.low N c && codeOK P N x && codeOK P N y
  | .block _ c => codeOK P N c
  | .scope c => codeOK P N c
  | .loop c => codeOK P N c
  | .exit _ => true
  | .ret => true
  | .rangeFunc _ _ _ _ => true
  | _ => false

/-! ### Sound -/

section
variable {S : Sp} {C : Fx} {E : Env} {σ : Store} {a : Act} {w : World} {ρ : Nat → Option Nat} {Im : Nat → Prop} {M : Str}

theorem Holds.own (H : Holds S C) {d : Nat} (hd : d < 100000) : ∀ id b, C.pin id = some b → Vai.own (S.b + d) id = false := fun id b hb => by
  have := H.low id (H.pin id b hb)
  simp only [Vai.own, beq_eq_false_iff_ne]; omega

theorem Holds.free (H : Holds S C) {d : Nat} (hd : d < 100000) : ∀ k, k < 16 → C.pin (16 * (S.b + d) + k) = none := fun k hk => by
  cases hp : C.pin (16 * (S.b + d) + k) with
  | none => rfl
  | some b =>
    have := H.own hd _ b hp
    simp only [Vai.own, beq_eq_false_iff_ne] at this; omega

theorem wpIn_value {o : Oper} {y : Value} {w' : World} {n : Nat} {K : Act → World → Prop} {Q : Exit → Act → World → Prop} (hop : ∀ c, o.op ≠ .defer c)
    (hr : (execOp a.eval o).run S.P w = .ok (.value y) w') (h : K (a.put o.dst y) w') : o.wpIn (FW C.rdl) n S.P a w K Q := by
  refine ⟨fun _ _ => trivial, ?_⟩
  rw [Oper.semAt_eq _ _ _ hop, hr]; exact h

theorem wpIn_skip' {o : Oper} {w' : World} {n : Nat} {K : Act → World → Prop} {Q : Exit → Act → World → Prop} (hop : ∀ c, o.op ≠ .defer c)
    (hr : (execOp a.eval o).run S.P w = .ok .skip w') (h : K (a.put o.dst undef) w') : o.wpIn (FW C.rdl) n S.P a w K Q := by
  refine ⟨fun _ _ => trivial, ?_⟩
  rw [Oper.semAt_eq _ _ _ hop, hr]; exact h

theorem fits_of {o : Oper} {N : Nat} (h : Oper.fits S.P N o = true) : (∀ d, o.dst = some d → d < N) ∧ Op.low N o.op = true ∧ cls S.P o.op o.type ≠ 9 := by
  simp only [Oper.fits, Bool.and_eq_true, bne_iff_ne, ne_eq] at h
  refine ⟨fun d hd => ?_, h.1.2, h.2⟩
  have := h.1.1; rw [hd] at this; simpa using this

theorem cls_defer {P : Program} {op : Op} {ty : TypeId} (h : cls P op ty ≠ 9) : ∀ c, op ≠ .defer c := fun c e => by subst e; exact h rfl

/-- A call of a function whose contract is known. -/
theorem callV_sound (H : Holds S C) (h : Wit C E σ a w ρ Im M) {o : Oper} (hf : Oper.fits S.P S.N o = true) {d : Nat} (hpn : ∀ k, k < 16 → C.pin (16 * d + k) = none) (hcl : ∀ k, k < 16 → Clean (16 * d + k) E σ) {v : AV} {bl : List (Nat × Blk)} {kd : Bool}
    (hv : callV S kd d o.op E σ v bl) {n : Nat} {K : Act → World → Prop} {Q : Exit → Act → World → Prop} (hK : ∀ y w' ρ' Im', Wit C (updO E o.dst v) (addS σ bl) (a.put o.dst y) w' ρ' Im' M → K (a.put o.dst y) w') :
    o.wpIn (FW C.rdl) n S.P a w K Q := by
  obtain ⟨hdst, hlow, hc9⟩ := fits_of hf
  have rep : ∀ x, x ∈ o.op.operands → Rep w ρ Im (ev E x) (a.eval x) := fun x hx => ev_rep h.env (by rw [h.size, ← H.N]; exact low_of hlow hx)
  have hdf := cls_defer hc9
  refine ⟨fun _ _ => trivial, ?_⟩
  rw [Oper.semAt_eq _ _ _ hdf]
  obtain ⟨dst, op, ty, pos, after, guard⟩ := o
  simp only at hdst hlow hv hK rep
  unfold callV at hv
  split at hv
  · rename_i f args ats
    split at hv
    · rename_i g caps hfv
      obtain ⟨r, hΓ, hor, hrl, _, rfl, rfl⟩ := hv
      have hfr := rep f (by simp [Op.operands, Call.operands])
      rw [hfv] at hfr
      obtain ⟨cys, hfy, hcl', hcr⟩ := hfr.clo_inv
      have hargs : ∀ x ∈ args.toList, Rep w ρ Im (ev E x) (a.eval x) := fun x hx => rep x (by simp [Op.operands, Call.operands]; exact Or.inr (Array.mem_toList_iff.1 hx))
      -- the arguments and what was captured
      have hall : Reps w ρ Im (args.toList.map (ev E) ++ caps) (args.toList.map a.eval ++ cys) := by
        refine ⟨by simp [hcl'], fun j c y hc hy => ?_⟩
        by_cases hj : j < args.toList.length
        · rw [List.getElem?_append_left (by simpa using hj), List.getElem?_map] at hc hy
          rw [List.getElem?_eq_getElem hj] at hc hy
          simp at hc hy; subst hc; subst hy
          exact hargs _ (by simp)
        · rw [List.getElem?_append_right (by simp at hj ⊢; omega)] at hc hy
          simp only [List.length_map] at hc hy
          exact hcr _ c y hc hy
      obtain ⟨henter, hfn⟩ := hΓ _ r ⟨rfl, rfl⟩
      have hrun : (execOp a.eval { dst, op := .call { callee := .value f, args, argTypes := ats }, type := ty, pos, after, guard }).run S.P w = .ok (.enter g (args.toList.map a.eval ++ cys).toArray) w := by
        simp only [execOp, resolve, hfy, Deferred.ofValue, Sem.run_bind, Sem.run_pure, Result.andThen_ok, invoke]
        have e1 : (#[] ++ args.map a.eval ++ cys.toArray : Array Value) = (args.toList.map a.eval ++ cys).toArray := by apply Array.toList_inj.1; simp
        rw [e1]; exact henter _ w
      rw [hrun]
      refine ⟨fun h => by simp [FW] at h, calls_FW ?_⟩
      have back : ∀ y w', Ext w (fun _ => False) w' → RRep w w' Im r y → K (a.put dst y) w' := fun y w' hx hr => by
        obtain ⟨ρ', Im', hw⟩ := h.back H.G (id := 16 * d) (fun k hk => hpn k (by omega)) (fun k hk => hcl k (by omega)) hx hr (dst := dst) (by rw [← H.N]; exact hdst)
        exact hK y w' ρ' Im' hw
      rcases hor with hn | hflat
      · have hres : (args.toList.map (ev E) ++ caps).map (res σ) = args.toList.map (ev E) ++ caps := by
          rw [List.map_congr_left (g := id)]
          · simp
          · intro x hx
            refine res_nameless ?_
            cases hb : AV.namesB allB x with
            | false => rfl
            | true => have := (AV.namesL_iff allB _).2 ⟨x, hx, hb⟩; rw [hn] at this; cases this
        rw [hres] at hfn
        refine (hfn w Im _ h.inv.low ⟨hall.1, fun j c y hc hy => irep_of_nameless (hall.2 j c y hc hy) fun id hid => ?_⟩).mono fun e w' ⟨y, he, hx, hr⟩ => by subst he; exact back y w' hx hr
        have := (AV.namesL_iff allB _).2 ⟨c, List.mem_of_getElem? hc, AV.namesB_of allB hid rfl⟩
        rw [hn] at this; cases this
      · refine (hfn w (Seen Im ρ) _ (fun b hb => by
          rcases hb with hb | ⟨id, hb⟩
          · exact h.inv.low b hb
          · exact h.inv.lt hb) ⟨by simpa using hall.1, fun j c y hc hy => ?_⟩).mono fun e w' ⟨y, he, hx, hr⟩ => by subst he; exact back y w' hx (hr.flat hflat h.inv.low)
        rw [List.getElem?_map] at hc
        cases hcj : (args.toList.map (ev E) ++ caps)[j]? with
        | none => simp [hcj] at hc
        | some c0 => simp [hcj] at hc; subst hc; exact res_sound h.inv (hall.2 j c0 y hcj hy)
    · exact hv.elim
  · exact hv.elim

theorem Rep.yld_inv {l : Nat} {y : Value} (h : Rep w ρ Im (.yld l) y) : y = .func (.yield l) #[] #[] := by
  cases h with | im _ _ h => cases h; rfl

/-- A call of yield. -/
theorem yieldV_sound (H : Holds S C) (h : Wit C E σ a w ρ Im M) {o : Oper} (hf : Oper.fits S.P S.N o = true) {A : AV → AV → Prop}
    (hv : yieldV S o.op E σ A) {n : Nat} {K : Act → World → Prop} {Q : Exit → Act → World → Prop} (hK : ∀ v g y w' M', A v g → Wit C (updO (upd E S.N g) o.dst v) σ (a.put o.dst y) w' ρ Im M' → K (a.put o.dst y) w') :
    o.wpIn (FW C.rdl) n S.P a w K Q := by
  obtain ⟨hdst, hlow, hc9⟩ := fits_of hf
  have rep : ∀ x, x ∈ o.op.operands → Rep w ρ Im (ev E x) (a.eval x) := fun x hx => ev_rep h.env (by rw [h.size, ← H.N]; exact low_of hlow hx)
  have hdf := cls_defer hc9
  refine ⟨fun _ _ => trivial, ?_⟩
  rw [Oper.semAt_eq _ _ _ hdf]
  obtain ⟨dst, op, ty, pos, after, guard⟩ := o
  simp only at hdst hlow hv hK rep
  unfold yieldV at hv
  split at hv
  · rename_i f args ats
    split at hv
    · rename_i l hfv
      obtain ⟨rfl, hn, hY⟩ := hv
      have hfr := rep f (by simp [Op.operands, Call.operands])
      rw [hfv] at hfr
      have hfy : a.eval f = .func (.yield S.yl) #[] #[] := hfr.yld_inv
      have hargs : IReps w Im (args.toList.map (ev E)) (args.toList.map a.eval) := by
        refine ⟨by simp, fun j c y hc hy => ?_⟩
        rw [List.getElem?_map] at hc hy
        cases hx : args.toList[j]? with
        | none => simp [hx] at hc
        | some x =>
          simp only [hx, Option.map_some, Option.some.injEq] at hc hy
          subst hc; subst hy
          have hmem := List.mem_of_getElem? hx
          refine irep_of_nameless (rep x (by simp [Op.operands, Call.operands]; exact Or.inr (Array.mem_toList_iff.1 hmem))) fun id hid => ?_
          have := (AV.namesL_iff allB _).2 ⟨ev E x, List.mem_map.2 ⟨x, hmem, rfl⟩, AV.namesB_of allB hid rfl⟩
          rw [hn] at this; cases this
      rw [H.N] at hY
      obtain ⟨fn, tmps, assign, body, hyr, hround⟩ := H.Y _ _ _ hY w Im M _ (fun b hb => ⟨h.inv.low b hb, fun hm => (h.ms b hm).2.2.1 hb⟩) (fun b hb => (h.ms b hb).1) h.js h.im hargs h.g (n - 1)
      have hrun : (execOp a.eval { dst, op := .call { callee := .value f, args, argTypes := ats }, type := ty, pos, after, guard }).run S.P w = .ok (.round S.yl fn tmps assign body) w := by
        simp only [execOp, resolve, hfy, Deferred.ofValue, Sem.run_bind, Sem.run_pure, Result.andThen_ok, invoke]
        have e1 : (#[] ++ args.map a.eval : Array Value) = (args.toList.map a.eval).toArray := by apply Array.toList_inj.1; simp
        rw [e1]; exact hyr
      rw [hrun]
      refine ⟨fun h => by simp [FW] at h, hround.mono ?_⟩
      rintro e w' ⟨v, g', M', rfl, ⟨b, rfl⟩, hA, hgn, hG', hM', hJ', hx⟩
      refine hK _ g' _ w' M' hA ?_
      have hIm : ∀ b, Im b → ¬ M.m b := fun b hb hm => (h.ms b hm).2.2.1 hb
      have hrho : ∀ i b, ρ i = some b → ¬ M.m b := fun i b hi hm => (h.ms b hm).2.1 i hi
      have rep' : ∀ {v : AV} {z : Value}, Rep w ρ Im v z → Rep w' ρ Im v z := fun {v z} hv =>
        Rep.mono (w := w) (w' := w') (fun _ h => h) (fun b hb => hx.block b (h.inv.low b hb) (hIm b hb)) hv fun i _ => ⟨rfl, fun b hi cur e hc => ⟨cur, by rw [hx.block b (h.inv.lt hi) (hrho i b hi)]; exact hc, rfl⟩⟩
      have hNne : S.N = C.N := H.N
      refine {
        inv := ⟨h.inv.nil, fun i k b hk hi hz => by
            obtain ⟨ents, clk, hb, hl, hc⟩ := h.inv.map i k b hk hi hz
            exact ⟨ents, clk, by rw [hx.block b (h.inv.lt hi) (hrho i b hi)]; exact hb, hl, fun i m hm => by obtain ⟨v, hv, hr⟩ := hc i m hm; exact ⟨v, hv, rep' hr⟩⟩, fun i k b hk hi hz => by
            obtain ⟨cur, hb, hl, hs, hc⟩ := h.inv.blk i k b hk hi hz
            exact ⟨cur, by rw [hx.block b (h.inv.lt hi) (hrho i b hi)]; exact hb, hl, hs, fun i e j c he hcc => by obtain ⟨v, hv, h1, hr⟩ := hc i e j c he hcc; exact ⟨v, hv, h1, rep' hr⟩⟩,
          h.inv.inj, h.inv.live, h.inv.apart, fun b hb => Nat.lt_of_lt_of_le (h.inv.low b hb) hx.size⟩
        env := ?_, size := (put_size ..).trans h.size
        ext := h.ext.trans hx fun b hb => (h.ms b hb).2.2.2
        rng := h.rng, im := h.im, pin := h.pin, js := hJ', j0 := h.j0
        gh := ?_, g := ?_
        ms := fun b hb => ?_
        rd := fun l r hr => by
          have hb : C.book a l := .inl ⟨r, hr⟩
          rw [hx.block l (h.bklt hb) (h.bk l hb).2.2]; exact h.rd l r hr
        nodup := by rw [put_defers]; exact h.nodup
        df := fun dd hdd => by
          rw [put_defers] at hdd
          obtain ⟨D, e, hD, hl⟩ := h.df dd hdd
          have hb : C.book a D := .inr (e ▸ hdd)
          exact ⟨D, e, by rw [hx.block D (h.bklt hb) (h.bk D hb).2.2]; exact hD, hl⟩
        bk := fun b hb => ?_ }
      · refine EnvRep.put (dst := dst) (tm := a) (E := upd E S.N g') (fun t y hy => ?_) (.im _ _ (.v _))
        simp only [upd]
        rw [if_neg (fun e => by
          have hlt := (Array.getElem?_eq_some_iff.1 hy).1
          rw [h.size] at hlt; omega)]
        exact rep' (h.env t y hy)
      · intro p
        rw [updO_ne (E := upd E S.N g') (N := C.N) (by rw [← H.N]; exact hdst)]
        simp only [upd, hNne, if_true]; exact hgn p
      · rw [updO_ne (E := upd E S.N g') (N := C.N) (by rw [← H.N]; exact hdst)]
        simp only [upd, hNne, if_true]; exact hG'
      · obtain ⟨h1, h2⟩ := hM' b hb
        refine ⟨h1, fun i hi => ?_, fun hi => ?_, ?_⟩
        · rcases h2 with h2 | h2
          · exact hrho i b hi h2
          · have := h.inv.lt hi; omega
        · rcases h2 with h2 | h2
          · exact hIm b hi h2
          · have := h.inv.low b hi; omega
        · rcases h2 with h2 | h2
          · exact (h.ms b h2).2.2.2
          · exact .inr (Nat.le_trans h.ext.size h2)
      · have hb : C.book a b := by unfold Fx.book at *; rwa [put_defers] at hb
        obtain ⟨h1, h2, h3⟩ := h.bk b hb
        refine ⟨h1, h2, fun hm => ?_⟩
        rcases (hM' b hm).2 with h4 | h4
        · exact h3 h4
        · have := h.bklt hb; omega
    · exact hv.elim
  · exact hv.elim

end
end Go.Vai

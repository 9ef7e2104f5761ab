/- How the account of a text is reckoned. -/
import Derived.Test.YtmiahmpobpokmaaVt
namespace Go.Vai
open Go.RowKit

theorem need_congr {A A' K : Prop} (h : A = A') : need A K = need A' K := by rw [h]
theorem needV_congr {A A' : Prop} {K : AV → Prop} {v v' : AV} (h : A = A') (hv : v = v') : needV A K v = needV A' K v' := by rw [h, hv]
theorem needS_congr {A A' : Prop} {K : Env → Store → Prop} {E : Env} {σ : Store} (h : A = A') : needS A K E σ = needS A' K E σ := by rw [h]
theorem putK_congr {dst : Option Nat} {K : Env → Store → Prop} {E : Env} {σ : Store} {v v' : AV} (h : v = v') : putK dst K E σ v = putK dst K E σ v' := by rw [h]
attribute [congr] need_congr needV_congr needS_congr putK_congr

section
variable {A B L : Prop} {P : Program} {S : Sp} {kd bi dr : Bool} {arr : Array Oper} {Kb : Env → Store → Prop} {dst : Option Nat} {ty t : TypeId} {K : Env → Store → Prop} {Q : Exit → Env → Store → Prop} {E : Env} {σ : Store} {k : AV → Prop} {ops : List Oper}

@[go_sem] theorem need_true (X : Prop) : need True X = X := by simp [need]
@[go_sem] theorem need_and (X : Prop) : need (A ∧ B) X = need A (need B X) := by simp [need, and_assoc]
@[go_sem] theorem need_of (X : Prop) (h : A) : need A X = X := by simp [need, h]
@[go_sem] theorem needV_true (v : AV) : needV True k v = k v := by simp [needV]
@[go_sem] theorem needV_and (v : AV) : needV (A ∧ B) k v = needV A (needV B k) v := by simp [needV, and_assoc]
@[go_sem] theorem needV_of (v : AV) (h : A) : needV A k v = k v := by simp [needV, h]
@[go_sem] theorem needS_true : needS True K E σ = K E σ := by simp [needS]
@[go_sem] theorem needS_and : needS (A ∧ B) K E σ = needS A (needS B K) E σ := by simp [needS, and_assoc]
@[go_sem] theorem needS_of (h : A) : needS A K E σ = K E σ := by simp [needS, h]
variable {kn : AV → List (Nat × Blk) → Prop} {ka : Nat → Nat → Nat → Blk → Prop}
@[go_sem] theorem needN_true (v : AV) (l : List (Nat × Blk)) : needN True kn v l = kn v l := by simp [needN]
@[go_sem] theorem needN_and (v : AV) (l : List (Nat × Blk)) : needN (A ∧ B) kn v l = needN A (needN B kn) v l := by simp [needN, and_assoc]
@[go_sem] theorem needN_of (v : AV) (l : List (Nat × Blk)) (h : A) : needN A kn v l = kn v l := by simp [needN, h]
@[go_sem] theorem needA_true (id sz n : Nat) (b : Blk) : needA True ka id sz n b = ka id sz n b := by simp [needA]
@[go_sem] theorem needA_and (id sz n : Nat) (b : Blk) : needA (A ∧ B) ka id sz n b = needA A (needA B ka) id sz n b := by simp [needA, and_assoc]
@[go_sem] theorem needA_of (id sz n : Nat) (b : Blk) (h : A) : needA A ka id sz n b = ka id sz n b := by simp [needA, h]

@[go_sem] theorem putK_some (d : Nat) (v : AV) : putK (some d) K E σ v = K (upd E d v) σ := rfl
@[go_sem] theorem putK_none (v : AV) : putK none K E σ v = K E σ := rfl
theorem branch_congr {c c' : Prop} {X Y : Env → Store → Prop} {E E' : Env} {σ : Store} (h : c = c') : branch c X E Y E' σ = branch c' X E Y E' σ := by rw [h]
attribute [congr] branch_congr
@[go_sem] theorem branch_true (X Y : Env → Store → Prop) (E' : Env) : branch True X E Y E' σ = X E σ := by simp [branch]
@[go_sem] theorem branch_false (X Y : Env → Store → Prop) (E' : Env) : branch False X E Y E' σ = Y E' σ := by simp [branch]
attribute [go_sem] decide_eq_true_eq beq_iff_eq bne_iff_ne Bool.and_eq_true Bool.or_eq_true Bool.not_eq_true' Bool.not_true Bool.not_false Bool.false_eq_true decide_eq_false_iff_not beq_eq_false_iff_ne
attribute [go_sem] List.nil_append List.cons_append List.append_nil List.map_cons List.map_nil List.length_cons List.length_nil List.getElem?_cons_zero List.getElem?_cons_succ List.drop_succ_cons List.drop_zero List.take_succ_cons List.take_zero List.drop_nil List.take_nil List.all_cons List.all_nil
attribute [go_sem] Bool.true_and Bool.and_true Bool.false_and Bool.and_false Bool.or_false Bool.false_or Bool.or_true Bool.true_or true_and and_true Option.getD_some Option.getD_none Int.toNat_natCast List.contains_cons List.contains_nil Option.isSome_some
@[go_sem] theorem optV_some (r : AV) : optV (some r) k = k r := rfl
@[go_sem] theorem optPt_some (r : AV) : optPt A (some r) k = needV A k (.pt r 0) := rfl
@[go_sem] theorem optU_some (c : UInt8) : optU A (some c) k = needV A k (.v (.int .u8 c.toNat)) := rfl

/-! ### Texts -/
@[go_sem ↓] theorem awpC_skip : awpC S .skip Q E σ = Q .normal E σ := rfl
@[go_sem ↓] theorem awpC_label (l : Nat) : awpC S (.label l) Q E σ = Q .normal E σ := rfl
@[go_sem ↓] theorem awpC_seq (a b : Code) : awpC S (.seq a b) Q E σ = awpC S a (thenQ (awpC S b Q) Q) E σ := by simp only [awpC]
@[go_sem ↓] theorem awpC_region (id : Nat) (os : Array Oper) (draw : Bool) : awpC S (.region id os draw) Q E σ = regC S draw os (Q .normal) E σ := by simp only [awpC]
@[go_sem ↓] theorem awpC_cond (c : Operand) (x y : Code) : awpC S (.cond c x y) Q E σ = condC (ev E c) (awpC S x Q) (awpC S y Q) E σ := by simp only [awpC]
@[go_sem ↓] theorem awpC_block (id : Nat) (c : Code) : awpC S (.block id c) Q E σ = awpC S c (blockQ id Q) E σ := by simp only [awpC]
@[go_sem ↓] theorem awpC_loop (c : Code) : awpC S (.loop c) Q E σ = loopC (awpC S c) Q E σ := by simp only [awpC]
@[go_sem ↓] theorem awpC_exit (id : Nat) : awpC S (.exit id) Q E σ = Q (.exit id) E σ := rfl
@[go_sem ↓] theorem awpC_ret : awpC S .ret Q E σ = Q .ret E σ := rfl
@[go_sem ↓] theorem thenQ_normal : thenQ K Q .normal E σ = K E σ := rfl
@[go_sem ↓] theorem thenQ_exit (id : Nat) : thenQ K Q (.exit id) E σ = Q (.exit id) E σ := rfl
@[go_sem ↓] theorem thenQ_ret : thenQ K Q .ret E σ = Q .ret E σ := rfl
@[go_sem ↓] theorem awpC_scope (c : Code) : awpC S (.scope c) Q E σ = awpC S c (scopeQ Q) E σ := by simp only [awpC]
@[go_sem ↓] theorem scopeQ_normal : scopeQ Q .normal E σ = Q .normal E σ := rfl
@[go_sem ↓] theorem scopeQ_ret : scopeQ Q .ret E σ = Q .ret E σ := rfl
@[go_sem ↓] theorem scopeQ_exit (id : Nat) : scopeQ Q (.exit id) E σ = Q (.exit id) E σ := rfl
@[go_sem ↓] theorem blockQ_normal (id : Nat) : blockQ id Q .normal E σ = Q .normal E σ := rfl
@[go_sem ↓] theorem blockQ_ret (id : Nat) : blockQ id Q .ret E σ = Q .ret E σ := rfl
@[go_sem ↓] theorem blockQ_exit (id id' : Nat) : blockQ id Q (.exit id') E σ = if id' = id then Q .normal E σ else Q (.exit id') E σ := by
  simp only [blockQ]; split <;> rfl
@[go_sem ↓] theorem regC_false : regC S false arr K E σ = opsC S false arr 0 arr.toList K E σ := rfl
/-- A region whose operations come in no fixed order. -/
def regT (K : Env → Store → Prop) (l : List Nat) (E : Env) (σ : Store) : Prop := K (killE (inL l) E) (killS (inL l) σ)
theorem regT_congr {l l' : List Nat} (h : l = l') : regT K l E σ = regT K l' E σ := by rw [h]
attribute [congr] regT_congr
@[go_sem ↓] theorem regC_true : regC S true arr K E σ = regT (opsC S true arr 0 arr.toList K) (regL S arr.toList) E σ := rfl
@[go_sem ↓] theorem struckC_true (os : List Oper) : struckC S true os K E σ = regT K (regL S os) E σ := rfl
@[go_sem ↓] theorem struckC_false (os : List Oper) : struckC S false os K E σ = K E σ := rfl
@[go_sem] theorem regT_nil : regT K [] E σ = K E σ := by unfold regT; rw [killE_nil, killS_nil]
@[go_sem] theorem regT_cons (i : Nat) (l : List Nat) : regT K (i :: l) E σ = K (killE (inL (i :: l)) E) (killS (inL (i :: l)) σ) := rfl
@[go_sem] theorem regL_nil : regL S [] = [] := rfl
@[go_sem] theorem regL_cons (op : Op) (pos : String) (after : Array Edge) (g : Option (Nat × Bool)) : regL S ({ dst, op, type := ty, pos, after, guard := g } :: ops) = regN S.b (cls S.P op ty) dst (regL S ops) := rfl
section
variable (x y : Operand)
@[go_sem] theorem cls_move_t (n : Nat) : cls P (.move (.tmp n)) ty = 0 := rfl
@[go_sem] theorem cls_move_f (n : Nat) : cls P (.move (.func n)) ty = 0 := rfl
@[go_sem] theorem cls_move_int (q : IntKind) (n : Int) : cls P (.move (.const (.int q n))) ty = 0 := rfl
@[go_sem] theorem cls_move_bool (b : Bool) : cls P (.move (.const (.bool b))) ty = 0 := rfl
@[go_sem] theorem cls_move_string (b : ByteArray) : cls P (.move (.const (.string b))) ty = 0 := rfl
@[go_sem] theorem cls_move_agg (cs : Array Value) : cls P (.move (.const (.agg cs))) ty = 0 := rfl
@[go_sem] theorem cls_move_ptr (a : Option Addr) : cls P (.move (.const (.pointer a))) ty = 0 := rfl
@[go_sem] theorem cls_move_nil : cls P (.move (.const (.slice none 0 0))) ty = if (tel P ty).isSome = true then 1 else 0 := rfl
@[go_sem] theorem cls_asg_t (n : Nat) : cls P (.assign (.tmp n)) ty = 0 := rfl
@[go_sem] theorem cls_asg_f (n : Nat) : cls P (.assign (.func n)) ty = 0 := rfl
@[go_sem] theorem cls_asg_int (q : IntKind) (n : Int) : cls P (.assign (.const (.int q n))) ty = 0 := rfl
@[go_sem] theorem cls_asg_bool (b : Bool) : cls P (.assign (.const (.bool b))) ty = 0 := rfl
@[go_sem] theorem cls_asg_string (b : ByteArray) : cls P (.assign (.const (.string b))) ty = 0 := rfl
@[go_sem] theorem cls_asg_agg (cs : Array Value) : cls P (.assign (.const (.agg cs))) ty = 0 := rfl
@[go_sem] theorem cls_asg_nilFunc : cls P (.assign (.const .nilFunc)) ty = 0 := rfl
@[go_sem] theorem cls_asg_nilIface : cls P (.assign (.const .nilIface)) ty = 0 := rfl
@[go_sem] theorem cls_asg_map (m : Option Nat) : cls P (.assign (.const (.map m))) ty = 0 := rfl
@[go_sem] theorem cls_move_nilFunc : cls P (.move (.const .nilFunc)) ty = 0 := rfl
@[go_sem] theorem cls_move_nilIface : cls P (.move (.const .nilIface)) ty = 0 := rfl
@[go_sem] theorem cls_move_map (m : Option Nat) : cls P (.move (.const (.map m))) ty = 0 := rfl
@[go_sem] theorem cls_asg_ptr (a : Option Addr) : cls P (.assign (.const (.pointer a))) ty = 0 := rfl
@[go_sem] theorem cls_asg_nil : cls P (.assign (.const (.slice none 0 0))) ty = if (tel P ty).isSome = true then 1 else 0 := rfl
@[go_sem] theorem cls_pick (z : Operand) : cls P (.pick x y z) ty = 0 := rfl
@[go_sem] theorem cls_alloc : cls P (.alloc t) ty = 1 := rfl
@[go_sem] theorem cls_box : cls P (.box t x) ty = 1 := rfl
@[go_sem] theorem cls_build (ps : Array (Nat × Operand)) : cls P (.build t ps) ty = 0 := rfl
@[go_sem] theorem cls_buildSlice (n : Nat) (ps : Array (Nat × Operand)) : cls P (.buildSlice t n ps) ty = 1 := rfl
@[go_sem] theorem cls_makeSlice : cls P (.makeSlice t x y) ty = 1 := rfl
@[go_sem] theorem cls_load : cls P (.load t x) ty = 0 := rfl
@[go_sem] theorem cls_store : cls P (.store t x y) ty = 4 := rfl
@[go_sem] theorem cls_nilCheck : cls P (.nilCheck x) ty = 0 := rfl
@[go_sem] theorem cls_binOp (op : BinOp) (t' : TypeId) : cls P (.binOp op t x y t') ty = 0 := rfl
@[go_sem] theorem cls_unOp (op : UnOp) : cls P (.unOp op t x) ty = 0 := rfl
@[go_sem] theorem cls_convert (t' : TypeId) : cls P (.convert t t' x) ty = if (tel P t').isSome = true then 5 else 0 := rfl
@[go_sem] theorem cls_makeFunc (f : Fn) (a b : Array Operand) : cls P (.makeFunc f a b) ty = 0 := rfl
@[go_sem] theorem cls_slice (a b c : Option Operand) : cls P (.slice t x a b c) ty = 0 := rfl
@[go_sem] theorem cls_fieldAddr (n : Nat) : cls P (.fieldAddr t x n) ty = 0 := rfl
@[go_sem] theorem cls_field (n : Nat) : cls P (.field t x n) ty = 0 := rfl
@[go_sem] theorem cls_indexAddr : cls P (.indexAddr t x y) ty = 0 := rfl
@[go_sem] theorem cls_index : cls P (.index t x y) ty = 0 := rfl
@[go_sem] theorem cls_extract (n : Nat) : cls P (.extract x n) ty = 0 := rfl
@[go_sem] theorem cls_call (as : Array Operand) (ts : Array TypeId) : cls P (.call { callee := .value x, args := as, argTypes := ts }) ty = 2 := rfl
@[go_sem] theorem cls_append (as : Array Operand) (ts : Array TypeId) : cls P (.call { callee := .builtin .append, args := as, argTypes := ts }) ty = 3 := rfl
@[go_sem] theorem cls_len (as : Array Operand) (ts : Array TypeId) : cls P (.call { callee := .builtin .len, args := as, argTypes := ts }) ty = 0 := rfl
@[go_sem] theorem cls_max (as : Array Operand) (ts : Array TypeId) : cls P (.call { callee := .builtin .max, args := as, argTypes := ts }) ty = 0 := rfl
@[go_sem] theorem cls_min (as : Array Operand) (ts : Array TypeId) : cls P (.call { callee := .builtin .min, args := as, argTypes := ts }) ty = 0 := rfl
end
@[go_sem] theorem regN_0 (b : Nat) (l : List Nat) : regN b 0 dst l = l := rfl
@[go_sem] theorem regN_1 (b d : Nat) (l : List Nat) : regN b 1 (some d) l = (b + d) :: l := rfl
@[go_sem] theorem regN_2 (b d : Nat) (l : List Nat) : regN b 2 (some d) l = (b + d) :: l := rfl
@[go_sem] theorem regN_2' (b : Nat) (l : List Nat) : regN b 2 none l = (b + 99999) :: l := rfl
@[go_sem] theorem regN_3 (b : Nat) (l : List Nat) : regN b 3 dst l = l := rfl
@[go_sem] theorem regN_4 (b : Nat) (l : List Nat) : regN b 4 dst l = l := rfl
@[go_sem] theorem regN_5 (b : Nat) (l : List Nat) : regN b 5 dst l = l := rfl

@[go_sem ↓] theorem opsC_nil (i : Nat) : opsC S dr arr i [] K E σ = K E σ := rfl
@[go_sem ↓] theorem opsC_one_f (i : Nat) (op : Op) (pos : String) (after : Array Edge) : opsC S false arr i ({ dst, op, type := ty, pos, after, guard := none } :: ops) K E σ = aopC S true true dst op ty (opsC S false arr (i + 1) ops K) (opsC S false arr (i + 1) ops K) E σ := rfl
@[go_sem ↓] theorem opsC_one_t (i : Nat) (op : Op) (pos : String) (after : Array Edge) : opsC S true arr i ({ dst, op, type := ty, pos, after, guard := none } :: ops) K E σ = aopC S false (bar arr i) dst op ty (opsC S true arr (i + 1) ops K) (struckC S true ops (opsC S true arr (i + 1) ops K)) E σ := rfl
@[go_sem ↓] theorem opsC_guard_f (i : Nat) (op : Op) (pos : String) (after : Array Edge) (j : Nat) (want : Bool) : opsC S false arr i ({ dst, op, type := ty, pos, after, guard := some (j, want) } :: ops) K E σ =
    guardD S true true (dstAt arr.toList j) want dst op ty (opsC S false arr (i + 1) ops K) (opsC S false arr (i + 1) ops K) E σ := rfl
@[go_sem ↓] theorem opsC_guard_t (i : Nat) (op : Op) (pos : String) (after : Array Edge) (j : Nat) (want : Bool) : opsC S true arr i ({ dst, op, type := ty, pos, after, guard := some (j, want) } :: ops) K E σ =
    guardD S false (bar arr i) (dstAt arr.toList j) want dst op ty (opsC S true arr (i + 1) ops K) (struckC S true ops (opsC S true arr (i + 1) ops K)) E σ := rfl
theorem guardD_congr {o o' : Option Nat} {want : Bool} {op : Op} (h : o = o') : guardD S kd bi o want dst op ty K Kb E σ = guardD S kd bi o' want dst op ty K Kb E σ := by rw [h]
theorem guardC_congr {a a' : AV} {want : Bool} {t : Nat} {op : Op} (h : a = a') : guardC S kd bi a want t dst op ty K Kb E σ = guardC S kd bi a' want t dst op ty K Kb E σ := by rw [h]
theorem condC_congr {a a' : AV} {X Y : Env → Store → Prop} (h : a = a') : condC a X Y E σ = condC a' X Y E σ := by rw [h]
attribute [congr] guardD_congr guardC_congr condC_congr
@[go_sem] theorem dstAt_zero (op : Op) (pos : String) (after : Array Edge) (g : Option (Nat × Bool)) : dstAt ({ dst, op, type := ty, pos, after, guard := g } :: ops) 0 = dst := rfl
@[go_sem] theorem dstAt_succ (o : Oper) (n : Nat) : dstAt (o :: ops) (n + 1) = dstAt ops n := rfl
@[go_sem] theorem guardD_some (t : Nat) (want : Bool) (op : Op) : guardD S kd bi (some t) want dst op ty K Kb E σ = guardC S kd bi (E t) want t dst op ty K Kb E σ := rfl
@[go_sem] theorem guardC_t (b : Bool) (t : Nat) (op : Op) : guardC S kd bi (.v (.bool b)) true t dst op ty K Kb E σ = branch (b = true) (aopC S kd bi dst op ty K Kb) (upd E t (.v (.bool true))) K (updO (upd E t (.v (.bool false))) dst (.v undef)) σ := rfl
@[go_sem] theorem guardC_f (b : Bool) (t : Nat) (op : Op) : guardC S kd bi (.v (.bool b)) false t dst op ty K Kb E σ = branch (b = true) K (updO (upd E t (.v (.bool true))) dst (.v undef)) (aopC S kd bi dst op ty K Kb) (upd E t (.v (.bool false))) σ := rfl
@[go_sem] theorem guardC_tuple (vs : Array Value) (want : Bool) (t : Nat) (op : Op) : guardC S kd bi (.v (.tuple vs)) want t dst op ty K Kb E σ = K (updO E dst (.v undef)) σ := by cases want <;> rfl
@[go_sem] theorem undef_eq : undef = .tuple #[] := rfl
@[go_sem] theorem condC_bool (b : Bool) (X Y : Env → Store → Prop) : condC (.v (.bool b)) X Y E σ = branch (b = true) X E Y E σ := rfl
attribute [go_sem] updO_some updO_none

/-! ### Lookups -/
@[go_sem] theorem ev_tmp (t : Nat) : ev E (.tmp t) = E t := rfl
@[go_sem] theorem ev_const (x : Value) : ev E (.const x) = ofC x := rfl
@[go_sem] theorem ev_func (f : Nat) : ev E (.func f) = .clo f [] := rfl
@[go_sem] theorem ofC_int (k : IntKind) (n : Int) : ofC (.int k n) = .v (.int k n) := rfl
@[go_sem] theorem ofC_bool (b : Bool) : ofC (.bool b) = .v (.bool b) := rfl
@[go_sem] theorem ofC_string (b : ByteArray) : ofC (.string b) = .v (.string b) := rfl
@[go_sem] theorem ofC_pointer (a : Option Addr) : ofC (.pointer a) = .v (.pointer a) := rfl
@[go_sem] theorem ofC_slice (a : Option Addr) (n c : Nat) : ofC (.slice a n c) = .v (.slice a n c) := rfl
@[go_sem] theorem upd_at (d t : Nat) (a : AV) : upd E d a t = if t = d then a else E t := rfl
theorem upd_congr {d t t' : Nat} {a : AV} (h : t = t') : upd E d a t = upd E d a t' := by rw [h]
@[go_sem] theorem killE_at (p : Nat → Bool) (t : Nat) : killE p E t = (E t).kill p := rfl
@[go_sem] theorem kE_true (d : Nat) : kE true d E = killE (own d) E := rfl
@[go_sem] theorem kE_false (d : Nat) : kE false d E = E := rfl
@[go_sem] theorem kS_true (d : Nat) : kS true d σ = killS (own d) σ := rfl
@[go_sem] theorem kS_false (d : Nat) : kS false d σ = σ := rfl
@[go_sem] theorem killS_at (p : Nat → Bool) (t : Nat) : killS p σ t = if p t = true then none else (σ t).map (Blk.kill p) := rfl
@[go_sem] theorem updS_at (d t : Nat) (b : Blk) : updS σ d b t = if t = d then some b else σ t := rfl
@[go_sem] theorem addS_nil : addS σ [] = σ := rfl
@[go_sem] theorem addS_cons (id : Nat) (b : Blk) (l : List (Nat × Blk)) : addS σ ((id, b) :: l) = addS (updS σ id b) l := rfl
@[go_sem] theorem own_at (d i : Nat) : own d i = (i / 16 == d) := rfl
@[go_sem] theorem isId_at (d i : Nat) : isId d i = (i == d) := rfl
@[go_sem] theorem allB_at (i : Nat) : allB i = true := rfl
@[go_sem] theorem inL_at (l : List Nat) (i : Nat) : inL l i = l.contains (i / 16) := rfl
variable {p : Nat → Bool}
@[go_sem] theorem initE_at (args : List AV) (t : Nat) : initE args t = args.getD t (.v undef) := rfl
@[go_sem] theorem getD_zero (a d : AV) (l : List AV) : (a :: l).getD 0 d = a := rfl
@[go_sem] theorem getD_succ (a d : AV) (l : List AV) (n : Nat) : (a :: l).getD (n + 1) d = l.getD n d := rfl
@[go_sem] theorem getD_nil (d : AV) (n : Nat) : ([] : List AV).getD n d = d := rfl
@[go_sem] theorem kill_any : AV.kill p .any = .any := rfl
@[go_sem] theorem kill_v (x : Value) : AV.kill p (.v x) = .v x := rfl
@[go_sem] theorem kill_sl (s : Nat) (es : List AV) : AV.kill p (.sl s es) = .sl s es := rfl
@[go_sem] theorem kill_pt (e : AV) (j : Nat) : AV.kill p (.pt e j) = .pt e j := rfl
@[go_sem] theorem kill_own (id s i n : Nat) : AV.kill p (.own id s i n) = if p id = true then .any else .own id s i n := by
  unfold AV.kill AV.namesB AV.dk; split <;> simp_all
@[go_sem] theorem kill_ptr (id s i n : Nat) : AV.kill p (.ptr id s i n) = if p id = true then .any else .ptr id s i n := by
  unfold AV.kill AV.namesB AV.dk; split <;> simp_all
@[go_sem] theorem kill_yld (l : Nat) : AV.kill p (.yld l) = .yld l := rfl
@[go_sem] theorem kill_agg (cs : List AV) : AV.kill p (.agg cs) = if AV.namesL p cs = true then .agg (AV.dkL p cs) else .agg cs := rfl
@[go_sem] theorem kill_tup (cs : List AV) : AV.kill p (.tup cs) = if AV.namesL p cs = true then .tup (AV.dkL p cs) else .tup cs := rfl
@[go_sem] theorem kill_clo (f : Nat) (cs : List AV) : AV.kill p (.clo f cs) = if AV.namesL p cs = true then .clo f (AV.dkL p cs) else .clo f cs := rfl
@[go_sem] theorem kill_blk (e s : Nat) (es : List AV) : Blk.kill p ⟨e, s, es⟩ = if AV.namesL p es = true then ⟨e, s, AV.dkL p es⟩ else ⟨e, s, es⟩ := rfl
attribute [go_sem] AV.namesB AV.namesL AV.dk AV.dkL
attribute [go_sem] AV.cells_agg AV.cells_v AV.cells_sl AV.cells_own AV.cells_ptr AV.cells_pt AV.cells_clo AV.cells_any
@[go_sem] theorem ok_v (x : Value) : (AV.v x).ok = x.oneCell' := rfl
@[go_sem] theorem ok_agg (cs : List AV) : (AV.agg cs).ok = true := rfl
@[go_sem] theorem ok_sl (s : Nat) (es : List AV) : (AV.sl s es).ok = true := rfl
@[go_sem] theorem ok_pt (e : AV) (j : Nat) : (AV.pt e j).ok = true := rfl
@[go_sem] theorem ok_own (id s i n : Nat) : (AV.own id s i n).ok = true := rfl
@[go_sem] theorem ok_ptr (id s i n : Nat) : (AV.ptr id s i n).ok = true := rfl
@[go_sem] theorem ok_clo (f : Nat) (cs : List AV) : (AV.clo f cs).ok = true := rfl
@[go_sem] theorem one_int (k : IntKind) (n : Int) : (Value.int k n).oneCell' = true := rfl
@[go_sem] theorem one_bool (b : Bool) : (Value.bool b).oneCell' = true := rfl
@[go_sem] theorem one_string (b : ByteArray) : (Value.string b).oneCell' = true := rfl
@[go_sem] theorem one_slice (a : Option Addr) (n c : Nat) : (Value.slice a n c).oneCell' = true := rfl

/-! ### Operations -/
@[go_sem ↓] theorem aop_move_t (x : Nat) : aopC S kd bi dst (.move (.tmp x)) ty K Kb E σ = putK dst K E σ (E x) := rfl
@[go_sem ↓] theorem aop_move_f (f : Nat) : aopC S kd bi dst (.move (.func f)) ty K Kb E σ = putK dst K E σ (.clo f []) := rfl
@[go_sem ↓] theorem aop_move_int (q : IntKind) (n : Int) : aopC S kd bi dst (.move (.const (.int q n))) ty K Kb E σ = putK dst K E σ (.v (.int q n)) := rfl
@[go_sem ↓] theorem aop_move_bool (b : Bool) : aopC S kd bi dst (.move (.const (.bool b))) ty K Kb E σ = putK dst K E σ (.v (.bool b)) := rfl
@[go_sem ↓] theorem aop_move_string (b : ByteArray) : aopC S kd bi dst (.move (.const (.string b))) ty K Kb E σ = putK dst K E σ (.v (.string b)) := rfl
@[go_sem ↓] theorem aop_move_agg (cs : Array Value) : aopC S kd bi dst (.move (.const (.agg cs))) ty K Kb E σ = putK dst K E σ (ofC (.agg cs)) := rfl
@[go_sem ↓] theorem aop_move_nilFunc : aopC S kd bi dst (.move (.const .nilFunc)) ty K Kb E σ = putK dst K E σ (.v .nilFunc) := rfl
@[go_sem ↓] theorem aop_move_nilIface : aopC S kd bi dst (.move (.const .nilIface)) ty K Kb E σ = putK dst K E σ (.v .nilIface) := rfl
@[go_sem ↓] theorem aop_move_map (m : Option Nat) : aopC S kd bi dst (.move (.const (.map m))) ty K Kb E σ = putK dst K E σ (ofC (.map m)) := rfl
@[go_sem ↓] theorem aop_move_ptr (a : Option Addr) : aopC S kd bi dst (.move (.const (.pointer a))) ty K Kb E σ = putK dst K E σ (.v (.pointer a)) := rfl
@[go_sem ↓] theorem aop_asg_t (x : Nat) : aopC S kd bi dst (.assign (.tmp x)) ty K Kb E σ = putK dst K E σ (E x) := rfl
@[go_sem ↓] theorem aop_asg_f (f : Nat) : aopC S kd bi dst (.assign (.func f)) ty K Kb E σ = putK dst K E σ (.clo f []) := rfl
@[go_sem ↓] theorem aop_asg_int (q : IntKind) (n : Int) : aopC S kd bi dst (.assign (.const (.int q n))) ty K Kb E σ = putK dst K E σ (.v (.int q n)) := rfl
@[go_sem ↓] theorem aop_asg_bool (b : Bool) : aopC S kd bi dst (.assign (.const (.bool b))) ty K Kb E σ = putK dst K E σ (.v (.bool b)) := rfl
@[go_sem ↓] theorem aop_asg_string (b : ByteArray) : aopC S kd bi dst (.assign (.const (.string b))) ty K Kb E σ = putK dst K E σ (.v (.string b)) := rfl
@[go_sem ↓] theorem aop_asg_agg (cs : Array Value) : aopC S kd bi dst (.assign (.const (.agg cs))) ty K Kb E σ = putK dst K E σ (ofC (.agg cs)) := rfl
@[go_sem ↓] theorem aop_asg_nilFunc : aopC S kd bi dst (.assign (.const .nilFunc)) ty K Kb E σ = putK dst K E σ (.v .nilFunc) := rfl
@[go_sem ↓] theorem aop_asg_nilIface : aopC S kd bi dst (.assign (.const .nilIface)) ty K Kb E σ = putK dst K E σ (.v .nilIface) := rfl
@[go_sem ↓] theorem aop_asg_map (m : Option Nat) : aopC S kd bi dst (.assign (.const (.map m))) ty K Kb E σ = putK dst K E σ (ofC (.map m)) := rfl
@[go_sem ↓] theorem aop_asg_ptr (a : Option Addr) : aopC S kd bi dst (.assign (.const (.pointer a))) ty K Kb E σ = putK dst K E σ (.v (.pointer a)) := rfl
def nilG (S : Sp) (kd : Bool) (q : Option TypeId) (dst : Option Nat) (K : Env → Store → Prop) (E : Env) (σ : Store) : Prop := match q, dst with
  | some e, some d => nilC S.P (S.b + d) (some e) (newK d K (kE kd (S.b + d) E) (kS kd (S.b + d) σ))
  | none, _ => putK dst K E σ (.v (.slice none 0 0))
  | _, _ => False
theorem nilG_congr {q q' : Option TypeId} (h : q = q') : nilG S kd q dst K E σ = nilG S kd q' dst K E σ := by rw [h]
attribute [congr] nilG_congr
theorem nilG_eq : (match tel S.P ty with
    | some e => (match dst with
      | some d => nilC S.P (S.b + d) (some e) (newK d K (kE kd (S.b + d) E) (kS kd (S.b + d) σ))
      | none => False)
    | none => putK dst K E σ (.v (.slice none 0 0))) = nilG S kd (tel S.P ty) dst K E σ := by
  unfold nilG; cases tel S.P ty <;> cases dst <;> rfl
@[go_sem ↓] theorem aop_move_nil : aopC S kd bi dst (.move (.const (.slice none 0 0))) ty K Kb E σ = nilG S kd (tel S.P ty) dst K E σ := nilG_eq
@[go_sem ↓] theorem aop_asg_nil : aopC S kd bi dst (.assign (.const (.slice none 0 0))) ty K Kb E σ = nilG S kd (tel S.P ty) dst K E σ := nilG_eq
@[go_sem] theorem nilG_some (e : TypeId) (d : Nat) : nilG S kd (some e) (some d) K E σ = newK d K (kE kd (S.b + d) E) (kS kd (S.b + d) σ) (.own (16 * (S.b + d)) (tsz S.P e) 0 0) [(16 * (S.b + d), ⟨e, tsz S.P e, []⟩)] := rfl
@[go_sem] theorem nilG_none : nilG S kd none dst K E σ = putK dst K E σ (.v (.slice none 0 0)) := rfl
theorem newK_congr {d : Nat} {E E' : Env} {σ σ' : Store} {v v' : AV} {bl bl' : List (Nat × Blk)} (h1 : E = E') (h2 : σ = σ') (h3 : v = v') (h4 : bl = bl') : newK d K E σ v bl = newK d K E' σ' v' bl' := by rw [h1, h2, h3, h4]
attribute [congr] newK_congr
@[go_sem] theorem newK_eq (d : Nat) (v : AV) (bl : List (Nat × Blk)) : newK d K E σ v bl = K (upd E d v) (addS σ bl) := rfl

@[go_sem ↓] theorem aop_pick (c x y : Operand) : aopC S kd bi dst (.pick c x y) ty K Kb E σ = pickC (ev E c) (ev E x) (ev E y) (putK dst K E σ) := rfl
@[go_sem ↓] theorem aop_load (x : Operand) : aopC S kd bi dst (.load t x) ty K Kb E σ = loadC S.P σ t (ev E x) (putK dst K E σ) := rfl
@[go_sem ↓] theorem aop_nilCheck (x : Operand) : aopC S kd bi dst (.nilCheck x) ty K Kb E σ = nilchkC (ev E x) (putK dst K E σ) := rfl
@[go_sem ↓] theorem aop_binOp (op : BinOp) (x y : Operand) (t' : TypeId) : aopC S kd bi dst (.binOp op t x y t') ty K Kb E σ = binC S.P op t (ev E x) (ev E y) (putK dst K E σ) := rfl
@[go_sem ↓] theorem aop_build (parts : Array (Nat × Operand)) : aopC S kd bi dst (.build t parts) ty K Kb E σ = buildC S.P (tzA S.P t) (tfld S.P t) (tarr S.P t) (parts.toList.map fun p => (p.1, ev E p.2)) (putK dst K E σ) := rfl
@[go_sem ↓] theorem aop_unOp (op : UnOp) (x : Operand) : aopC S kd bi dst (.unOp op t x) ty K Kb E σ = unC op (ev E x) (putK dst K E σ) := rfl
def convG (S : Sp) (dst : Option Nat) (t t' : TypeId) (x : Operand) (ty : TypeId) (q : Option TypeId) (K Kb : Env → Store → Prop) (E : Env) (σ : Store) : Prop := match q with
  | some _ => semD S dst (.convert t t' x) ty Kb E σ
  | none => convC (tund S.P t) (tint S.P t') (ev E x) (putK dst K E σ)
theorem convG_congr {t' : TypeId} {x : Operand} {q q' : Option TypeId} (h : q = q') : convG S dst t t' x ty q K Kb E σ = convG S dst t t' x ty q' K Kb E σ := by rw [h]
attribute [congr] convG_congr
@[go_sem ↓] theorem aop_convert (t' : TypeId) (x : Operand) : aopC S kd bi dst (.convert t t' x) ty K Kb E σ = convG S dst t t' x ty (tel S.P t') K Kb E σ := by
  show restA S dst (.convert t t' x) ty (if (tel S.P t').isSome then 5 else 0) K Kb E σ = _
  unfold convG
  cases tel S.P t' <;> rfl
@[go_sem] theorem convG_some (t' : TypeId) (x : Operand) (e : TypeId) : convG S dst t t' x ty (some e) K Kb E σ = semD S dst (.convert t t' x) ty Kb E σ := rfl
@[go_sem] theorem convG_none (t' : TypeId) (x : Operand) : convG S dst t t' x ty none K Kb E σ = convC (tund S.P t) (tint S.P t') (ev E x) (putK dst K E σ) := rfl
@[go_sem ↓] theorem aop_makeFunc (f : FuncId) (first cs : Array Operand) : aopC S kd bi dst (.makeFunc (.func f) first cs) ty K Kb E σ = needV (first = #[]) (putK dst K E σ) (.clo f (cs.toList.map (ev E))) := rfl
def fldAC (P : Program) (q : Option (List (Nat × TypeId))) (f : Nat) (a : AV) (K : AV → Prop) : Prop := match q, a with
  | some fs, .pt e j => fldB P fs[f]? (.pt e j) K
  | some fs, .ptr id s i j => fldB P fs[f]? (.ptr id s i j) K
  | _, _ => False
def fldVC (P : Program) (q : Option (List (Nat × TypeId))) (f : Nat) (a : AV) (K : AV → Prop) : Prop := match q, a with
  | some fs, .agg cs => fldB P fs[f]? (.agg cs) K
  | _, _ => False
@[go_sem ↓] theorem aop_fieldAddr (x : Operand) (f : Nat) : aopC S kd bi dst (.fieldAddr t x f) ty K Kb E σ = fldAC S.P (tfld S.P t) f (ev E x) (putK dst K E σ) := by
  show ((match ev E x with | .agg _ => False | _ => True) ∧ fldC S.P (tfld S.P t) f (ev E x) _) = _
  unfold fldC fldAC
  cases tfld S.P t with
  | none => simp
  | some fs => cases ev E x <;> simp [fldB] <;> (split <;> simp_all)
@[go_sem ↓] theorem aop_field (x : Operand) (f : Nat) : aopC S kd bi dst (.field t x f) ty K Kb E σ = fldVC S.P (tfld S.P t) f (ev E x) (putK dst K E σ) := by
  show ((match ev E x with | .agg _ => True | _ => False) ∧ fldC S.P (tfld S.P t) f (ev E x) _) = _
  unfold fldC fldVC
  cases tfld S.P t with
  | none => simp
  | some fs => cases ev E x <;> simp
@[go_sem] theorem fldAC_pt (fs : List (Nat × TypeId)) (f : Nat) (e : AV) (j : Nat) : fldAC P (some fs) f (.pt e j) k = fldB P fs[f]? (.pt e j) k := rfl
@[go_sem] theorem fldAC_ptr (fs : List (Nat × TypeId)) (f : Nat) (id s i j : Nat) : fldAC P (some fs) f (.ptr id s i j) k = fldB P fs[f]? (.ptr id s i j) k := rfl
@[go_sem] theorem fldVC_agg (fs : List (Nat × TypeId)) (f : Nat) (cs : List AV) : fldVC P (some fs) f (.agg cs) k = fldB P fs[f]? (.agg cs) k := rfl
@[go_sem] theorem fldB_pt (off : Nat) (e : AV) (j : Nat) : fldB P (some (off, t)) (.pt e j) k = needV (0 < tsz P t) k (.pt e (j + off)) := rfl
@[go_sem] theorem fldB_ptr (off : Nat) (id s i j : Nat) : fldB P (some (off, t)) (.ptr id s i j) k = needV (0 < tsz P t) k (.ptr id s i (j + off)) := rfl
@[go_sem] theorem fldB_agg (off : Nat) (cs : List AV) : fldB P (some (off, t)) (.agg cs) k = partC P t cs off k := rfl
@[go_sem ↓] theorem aop_indexAddr (x i : Operand) : aopC S kd bi dst (.indexAddr t x i) ty K Kb E σ = idxAddrC S.P t (ev E x) (ev E i) (putK dst K E σ) := rfl
@[go_sem ↓] theorem aop_index (x i : Operand) : aopC S kd bi dst (.index t x i) ty K Kb E σ = idxC S.P t (ev E x) (ev E i) (putK dst K E σ) := rfl
@[go_sem ↓] theorem aop_extract (x : Operand) (i : Nat) : aopC S kd bi dst (.extract x i) ty K Kb E σ = extC (ev E x) i (putK dst K E σ) := rfl
@[go_sem ↓] theorem aop_slice (x : Operand) (lo hi : Option Operand) : aopC S kd bi dst (.slice t x lo hi none) ty K Kb E σ = cutE S.P (tel S.P t) (tstr S.P t) (ev E x) (boundA E lo 0) (boundA E hi (lenN (ev E x))) (putK dst K E σ) := rfl
@[go_sem ↓] theorem aop_len (x : Operand) : aopC S kd bi dst (.call { callee := .builtin .len, args := #[x], argTypes := #[t] }) ty K Kb E σ = lenC (tstr S.P t) (tel S.P t) (ev E x) (putK dst K E σ) := rfl
@[go_sem ↓] theorem aop_max (args : Array Operand) (ats : Array TypeId) : aopC S kd bi dst (.call { callee := .builtin .max, args, argTypes := ats }) ty K Kb E σ = maxC (args.toList.map (ev E)) (putK dst K E σ) := rfl
@[go_sem ↓] theorem aop_min (args : Array Operand) (ats : Array TypeId) : aopC S kd bi dst (.call { callee := .builtin .min, args, argTypes := ats }) ty K Kb E σ = minC (args.toList.map (ev E)) (putK dst K E σ) := rfl
@[go_sem ↓] theorem aop_call (f : Operand) (args : Array Operand) (ats : Array TypeId) : aopC S kd bi dst (.call { callee := .value f, args, argTypes := ats }) ty K Kb E σ =
    callF S kd bi (S.b + dst.getD 99999) (ev E f) (args.toList.map (ev E)) dst K Kb E σ (kE kd (S.b + dst.getD 99999) E) (kS kd (S.b + dst.getD 99999) σ) (args.toList.map (ev (kE kd (S.b + dst.getD 99999) E))) (ev (kE kd (S.b + dst.getD 99999) E) f)
      (semD S dst (.call { callee := .value f, args, argTypes := ats }) ty Kb E σ) := rfl
@[go_sem ↓] theorem aop_append (d : Nat) (args : Array Operand) (ats : Array TypeId) : aopC S kd bi (some d) (.call { callee := .builtin .append, args, argTypes := ats }) ty K Kb E σ =
    appC S.P args.toList ats.toList E σ fun id sz n k => need (S.pin id = false) (appK d Kb E σ id sz n k) := rfl
@[go_sem ↓] theorem aop_store (x y : Operand) : aopC S kd bi dst (.store t x y) ty K Kb E σ = storeC S.P t (ev E x) (ev E y) dst Kb E σ := rfl
@[go_sem ↓] theorem aop_alloc (d : Nat) : aopC S kd bi (some d) (.alloc t) ty K Kb E σ = allocC S.P (S.b + d) t (tel S.P t) (tsz S.P t) (tzA S.P t) (newK d K (kE kd (S.b + d) E) (kS kd (S.b + d) σ)) := rfl
@[go_sem ↓] theorem aop_box (d : Nat) (x : Operand) : aopC S kd bi (some d) (.box t x) ty K Kb E σ = boxC (S.b + d) t (tsz S.P t) (ev (kE kd (S.b + d) E) x) (newK d K (kE kd (S.b + d) E) (kS kd (S.b + d) σ)) := rfl
@[go_sem ↓] theorem aop_buildSlice (d len : Nat) (parts : Array (Nat × Operand)) : aopC S kd bi (some d) (.buildSlice t len parts) ty K Kb E σ =
    bsliceC S.P (S.b + d) (tel S.P t) len (parts.toList.map (·.1)) (parts.toList.map fun p => ev (kE kd (S.b + d) E) p.2) (newK d K (kE kd (S.b + d) E) (kS kd (S.b + d) σ)) := rfl
@[go_sem ↓] theorem aop_makeSlice (d : Nat) (l c : Operand) : aopC S kd bi (some d) (.makeSlice t l c) ty K Kb E σ = msliceC S.P (S.b + d) (tel S.P t) (ev (kE kd (S.b + d) E) l) (ev (kE kd (S.b + d) E) c) (newK d K (kE kd (S.b + d) E) (kS kd (S.b + d) σ)) := rfl
@[go_sem] theorem semD_mk (op : Op) (h : semD S dst op ty Kb E σ) : semD S dst op ty Kb E σ = True := by simp [h]

@[go_sem] theorem pickC_t (a b : AV) : pickC (.v (.bool true)) a b k = k a := rfl
@[go_sem] theorem pickC_f (a b : AV) : pickC (.v (.bool false)) a b k = k b := rfl
@[go_sem] theorem pickC_bool (c a b : Bool) : pickC (.v (.bool c)) (.v (.bool a)) (.v (.bool b)) k = k (.v (.bool (if c = true then a else b))) := by cases c <;> rfl
@[go_sem] theorem pickC_int (c : Bool) (q : IntKind) (a b : Int) : pickC (.v (.bool c)) (.v (.int q a)) (.v (.int q b)) k = k (.v (.int q (if c = true then a else b))) := by cases c <;> rfl
@[go_sem] theorem loadC_pt (e : AV) (j : Nat) : loadC P σ t (.pt e j) k = partC P t e.cells j k := rfl
@[go_sem] theorem loadC_ptr (id s i j : Nat) : loadC P σ t (.ptr id s i j) k = loadB P t (σ id) s i j k := rfl
@[go_sem] theorem loadB_some (b : Blk) (s i j : Nat) : loadB P t (some b) s i j k = need (b.sz = s) (loadE P t b.es[i]? j k) := rfl
@[go_sem] theorem loadE_some (e : AV) (j : Nat) : loadE P t (some e) j k = partC P t e.cells j k := rfl
@[go_sem] theorem partC_eq (cs : List AV) (off : Nat) : partC P t cs off k = partA (tagg P t) (tsz P t) cs off k := rfl
@[go_sem] theorem partA_t (s : Nat) (cs : List AV) (off : Nat) : partA (some true) s cs off k = needV (0 < s ∧ off + s ≤ cs.length) k (.agg ((cs.drop off).take s)) := rfl
@[go_sem] theorem partA_f (s : Nat) (cs : List AV) (off : Nat) : partA (some false) s cs off k = optV cs[off]? k := rfl
@[go_sem] theorem nilchkC_pt (e : AV) (j : Nat) : nilchkC (.pt e j) k = k (.pt e j) := rfl
@[go_sem] theorem nilchkC_ptr (id s i j : Nat) : nilchkC (.ptr id s i j) k = k (.ptr id s i j) := rfl
@[go_sem] theorem nilchkC_clo (f : Nat) (cs : List AV) : nilchkC (.clo f cs) k = k (.clo f cs) := rfl
@[go_sem] theorem binC_int (op : BinOp) (q q' : IntKind) (m n : Int) : binC P op t (.v (.int q m)) (.v (.int q' n)) k = intC op q m q' n k := rfl
@[go_sem] theorem binC_str (op : BinOp) (a b : ByteArray) : binC P op t (.v (.string a)) (.v (.string b)) k = strC op a b k := rfl
@[go_sem] theorem binC_agg (op : BinOp) (cs ds : List AV) : binC P op t (.agg cs) (.agg ds) k = aggC op (teq P t) cs ds k := rfl
@[go_sem] theorem binC_beq (a b : Bool) : binC P .eql t (.v (.bool a)) (.v (.bool b)) k = needV (tkind P t = some 1) k (.v (.bool (a == b))) := rfl
@[go_sem] theorem binC_bne (a b : Bool) : binC P .neq t (.v (.bool a)) (.v (.bool b)) k = needV (tkind P t = some 1) k (.v (.bool (!(a == b)))) := rfl
attribute [go_sem] intC strC
@[go_sem] theorem aggC_some (op : BinOp) (q : List Nat) (cs ds : List AV) : aggC op (some q) cs ds k = eqlC op (eqK q cs ds) k := rfl
@[go_sem] theorem eqlC_eql (b : Bool) : eqlC .eql (some b) k = k (.v (.bool b)) := rfl
@[go_sem] theorem eqlC_neq (b : Bool) : eqlC .neq (some b) k = k (.v (.bool (!b))) := rfl
@[go_sem] theorem eqK_nil : eqK [] [] [] = some true := rfl
@[go_sem] theorem eqK_int (ks : List Nat) (q : IntKind) (a b : Int) (r s : List AV) : eqK (0 :: ks) (.v (.int q a) :: r) (.v (.int q b) :: s) = (eqK ks r s).map ((a == b) && ·) := by simp [eqK]
@[go_sem] theorem eqK_bool (ks : List Nat) (a b : Bool) (r s : List AV) : eqK (1 :: ks) (.v (.bool a) :: r) (.v (.bool b) :: s) = (eqK ks r s).map ((a == b) && ·) := rfl
@[go_sem] theorem eqK_str (ks : List Nat) (a b : ByteArray) (r s : List AV) : eqK (2 :: ks) (.v (.string a) :: r) (.v (.string b) :: s) = (eqK ks r s).map ((a.toList == b.toList) && ·) := rfl
attribute [go_sem] Option.map_some Bool.and_true
@[go_sem] theorem buildC_some (z : AV) (q : Option (List (Nat × TypeId))) (r : Option (Nat × TypeId)) (ps : List (Nat × AV)) : buildC P (some z) q r ps k = buildB P z q r ps k := rfl
@[go_sem] theorem buildB_some (z : AV) (fs : List (Nat × TypeId)) (r : Option (Nat × TypeId)) (ps : List (Nat × AV)) : buildB P z (some fs) r ps k = need (z.ok = true ∧ (fs.all fun f => decide (0 < tsz P f.2)) = true) (fillK (fillA (placeF P fs) z.cells ps) k) := rfl
@[go_sem] theorem buildB_none (z : AV) (m : Nat) (e : TypeId) (ps : List (Nat × AV)) : buildB P z none (some (m, e)) ps k = need (z.ok = true ∧ 0 < tsz P e) (fillK (fillA (placeE (tsz P e)) z.cells ps) k) := rfl
@[go_sem] theorem fillK_some (cs : List AV) : fillK (some cs) k = k (.agg cs) := rfl
def fillB (place : Nat → Option (Nat × Nat)) (cs : List AV) (v : AV) (rest : List (Nat × AV)) (o : Option (Nat × Nat)) : Option (List AV) := match o with
  | none => none
  | some (off, size) => if v.cells.length = size ∧ off + size ≤ cs.length ∧ v.ok = true then fillA place (cs.take off ++ v.cells ++ cs.drop (off + size)) rest else none
@[go_sem] theorem fillA_nil (place : Nat → Option (Nat × Nat)) (cs : List AV) : fillA place cs [] = some cs := rfl
@[go_sem] theorem fillA_cons (place : Nat → Option (Nat × Nat)) (cs : List AV) (i : Nat) (v : AV) (rest : List (Nat × AV)) : fillA place cs ((i, v) :: rest) = fillB place cs v rest (place i) := by
  simp only [fillA, fillB]; cases place i <;> rfl
@[go_sem] theorem fillB_some (place : Nat → Option (Nat × Nat)) (cs : List AV) (v : AV) (rest : List (Nat × AV)) (off size : Nat) : fillB place cs v rest (some (off, size)) =
    if v.cells.length = size ∧ off + size ≤ cs.length ∧ v.ok = true then fillA place (cs.take off ++ v.cells ++ cs.drop (off + size)) rest else none := rfl
attribute [go_sem] placeF placeE
@[go_sem] theorem unC_not (b : Bool) : unC .not (.v (.bool b)) k = k (.v (.bool (!b))) := rfl
@[go_sem] theorem unC_neg (q : IntKind) (n : Int) : unC .neg (.v (.int q n)) k = k (.v (.int q (q.wrap (0 - n)))) := rfl
@[go_sem] theorem convC_int (u : Bool) (q q' : IntKind) (n : Int) : convC u (some q) (.v (.int q' n)) k = needV (u = true) k (.v (.int q (q.wrap n))) := rfl
@[go_sem] theorem idxAddrC_int (x : AV) (q : IntKind) (n : Int) : idxAddrC P t x (.v (.int q n)) k = idxP P (tel P t) (tarr P t) x n k := rfl
@[go_sem] theorem idxP_sl (e : TypeId) (r : Option (Nat × TypeId)) (s : Nat) (es : List AV) (n : Int) : idxP P (some e) r (.sl s es) n k = optPt (0 < s ∧ tsz P e = s ∧ 0 ≤ n) es[n.toNat]? k := rfl
@[go_sem] theorem idxP_own (e : TypeId) (r : Option (Nat × TypeId)) (id s o l : Nat) (n : Int) : idxP P (some e) r (.own id s o l) n k = needV (0 < s ∧ tsz P e = s ∧ 0 ≤ n ∧ n < (l : Int)) k (.ptr id s (o + n.toNat) 0) := rfl
@[go_sem] theorem idxP_pt (m : Nat) (e : TypeId) (c : AV) (j : Nat) (n : Int) : idxP P none (some (m, e)) (.pt c j) n k = needV (0 < tsz P e ∧ 0 ≤ n ∧ n < (m : Int)) k (.pt c (j + n.toNat * tsz P e)) := rfl
@[go_sem] theorem idxP_ptr (m : Nat) (e : TypeId) (id s o j : Nat) (n : Int) : idxP P none (some (m, e)) (.ptr id s o j) n k = needV (0 < tsz P e ∧ 0 ≤ n ∧ n < (m : Int)) k (.ptr id s o (j + n.toNat * tsz P e)) := rfl
@[go_sem] theorem idxC_str (s : ByteArray) (q : IntKind) (n : Int) : idxC P t (.v (.string s)) (.v (.int q n)) k = optU (tstr P t = true ∧ 0 ≤ n) s[n.toNat]? k := rfl
@[go_sem] theorem idxC_agg (cs : List AV) (q : IntKind) (n : Int) : idxC P t (.agg cs) (.v (.int q n)) k = idxG P (tarr P t) cs n k := rfl
@[go_sem] theorem idxG_some (m : Nat) (e : TypeId) (cs : List AV) (n : Int) : idxG P (some (m, e)) cs n k = need (0 < tsz P e ∧ 0 ≤ n ∧ n < (m : Int)) (partC P e cs (n.toNat * tsz P e) k) := rfl
@[go_sem] theorem boundA_none (d : Nat) : boundA E none d = .v (.int .i64 d) := rfl
@[go_sem] theorem boundA_some (x : Operand) (d : Nat) : boundA E (some x) d = ev E x := rfl
@[go_sem] theorem lenN_sl (s : Nat) (es : List AV) : lenN (.sl s es) = es.length := rfl
@[go_sem] theorem lenN_own (id s o n : Nat) : lenN (.own id s o n) = n := rfl
@[go_sem] theorem lenN_str (s : ByteArray) : lenN (.v (.string s)) = s.size := rfl
@[go_sem] theorem cutE_sl (e : TypeId) (u : Bool) (s : Nat) (es : List AV) (q q' : IntKind) (l h : Int) : cutE P (some e) u (.sl s es) (.v (.int q l)) (.v (.int q' h)) k = needV (0 < s ∧ tsz P e = s ∧ 0 ≤ l ∧ l ≤ h ∧ h ≤ (es.length : Int)) k (.sl s ((es.drop l.toNat).take (h.toNat - l.toNat))) := rfl
@[go_sem] theorem cutE_own (e : TypeId) (u : Bool) (id s o n : Nat) (q q' : IntKind) (l h : Int) : cutE P (some e) u (.own id s o n) (.v (.int q l)) (.v (.int q' h)) k = needV (0 < s ∧ tsz P e = s ∧ 0 ≤ l ∧ l ≤ h ∧ h ≤ (n : Int)) k (.own id s (o + l.toNat) (h.toNat - l.toNat)) := rfl
@[go_sem] theorem cutE_str (u : Bool) (o : Option TypeId) (s : ByteArray) (q q' : IntKind) (l h : Int) : cutE P o u (.v (.string s)) (.v (.int q l)) (.v (.int q' h)) k = needV (u = true ∧ 0 ≤ l ∧ l ≤ h ∧ h ≤ (s.size : Int)) k (.v (.string (s.extract l.toNat h.toNat))) := rfl
@[go_sem] theorem lenC_str (u : Bool) (o : Option TypeId) (s : ByteArray) : lenC u o (.v (.string s)) k = needV (u = true) k (.v (.int .i64 (s.size : Int))) := rfl
@[go_sem] theorem lenC_sl (u : Bool) (o : Option TypeId) (s : Nat) (es : List AV) : lenC u o (.sl s es) k = needV (o.isSome = true) k (.v (.int .i64 (es.length : Int))) := rfl
@[go_sem] theorem lenC_own (u : Bool) (o : Option TypeId) (id s i n : Nat) : lenC u o (.own id s i n) k = needV (o.isSome = true) k (.v (.int .i64 (n : Int))) := rfl
@[go_sem] theorem lenC_slice (u : Bool) (o : Option TypeId) (a : Option Addr) (n c : Nat) : lenC u o (.v (.slice a n c)) k = needV (o.isSome = true) k (.v (.int .i64 (n : Int))) := rfl
@[go_sem] theorem maxC_int (q q' : IntKind) (a b : Int) : maxC [.v (.int q a), .v (.int q' b)] k = k (.v (.int q (if b > a then b else a))) := rfl
@[go_sem] theorem minC_int (q q' : IntKind) (a b : Int) : minC [.v (.int q a), .v (.int q' b)] k = k (.v (.int q (if b < a then b else a))) := rfl
@[go_sem] theorem extC_tup (vs : List AV) (i : Nat) : extC (.tup vs) i k = optV vs[i]? k := rfl

/-! ### Blocks -/
@[go_sem] theorem allocC_some (d e s : Nat) (z : Option AV) : allocC P d t (some e) s z kn = needN (tz P t = some (.slice none 0 0) ∧ s = 1) kn (.ptr (16 * d) 1 0 0) [(16 * d + 1, ⟨e, tsz P e, []⟩), (16 * d, ⟨t, 1, [.own (16 * d + 1) (tsz P e) 0 0]⟩)] := rfl
@[go_sem] theorem allocC_none (d s : Nat) (z : AV) : allocC P d t none s (some z) kn = needN (z.ok = true ∧ z.cells.length = s ∧ s ≠ 0) kn (.ptr (16 * d) s 0 0) [(16 * d, ⟨t, s, [z]⟩)] := rfl
@[go_sem] theorem boxC_eq (d s : Nat) (x : AV) : boxC d t s x kn = needN (x.ok = true ∧ x.cells.length = s ∧ s ≠ 0) kn (.ptr (16 * d) s 0 0) [(16 * d, ⟨t, s, [x]⟩)] := rfl
def bsliceB (d e s : Nat) (z : Option AV) (len : Nat) (is : List Nat) (xs : List AV) (K : AV → List (Nat × Blk) → Prop) : Prop := match z with
  | some z => needN (0 < s ∧ z.ok = true ∧ z.cells.length = s ∧ len * s ≤ 16777216 ∧ is = List.range len ∧ allOK s xs = true) K (.own (16 * d) s 0 len) [(16 * d, ⟨e, s, xs⟩)]
  | none => False
@[go_sem] theorem bsliceC_some (d e len : Nat) (is : List Nat) (xs : List AV) : bsliceC P d (some e) len is xs kn = bsliceB d e (tsz P e) (tzA P e) len is xs kn := rfl
@[go_sem] theorem bsliceB_some (d e s len : Nat) (z : AV) (is : List Nat) (xs : List AV) : bsliceB d e s (some z) len is xs kn =
    needN (0 < s ∧ z.ok = true ∧ z.cells.length = s ∧ len * s ≤ 16777216 ∧ is = List.range len ∧ allOK s xs = true) kn (.own (16 * d) s 0 len) [(16 * d, ⟨e, s, xs⟩)] := rfl
def msliceB (P : Program) (d e s : Nat) (z : Option AV) (n m : Int) (K : AV → List (Nat × Blk) → Prop) : Prop := match z with
  | some z => needN (0 < s ∧ z.ok = true ∧ z.cells.length = s ∧ 0 ≤ n ∧ n ≤ m ∧ m * (tby P e : Int) ≤ 281474976710656 ∧ m ≤ 4611686018427387904) K (.own (16 * d) s 0 n.toNat) [(16 * d, ⟨e, s, List.replicate n.toNat z⟩)]
  | none => False
@[go_sem] theorem msliceC_some (d e : Nat) (q q' : IntKind) (n m : Int) : msliceC P d (some e) (.v (.int q n)) (.v (.int q' m)) kn = msliceB P d e (tsz P e) (tzA P e) n m kn := rfl
@[go_sem] theorem msliceB_some (d e s : Nat) (z : AV) (n m : Int) : msliceB P d e s (some z) n m kn =
    needN (0 < s ∧ z.ok = true ∧ z.cells.length = s ∧ 0 ≤ n ∧ n ≤ m ∧ m * (tby P e : Int) ≤ 281474976710656 ∧ m ≤ 4611686018427387904) kn (.own (16 * d) s 0 n.toNat) [(16 * d, ⟨e, s, List.replicate n.toNat z⟩)] := rfl
@[go_sem] theorem allOK_nil (s : Nat) : allOK s [] = true := rfl
@[go_sem] theorem allOK_cons (s : Nat) (x : AV) (xs : List AV) : allOK s (x :: xs) = (x.ok && x.cells.length == s && allOK s xs) := rfl
@[go_sem] theorem appC_eq (s x : Operand) (t' : TypeId) : appC P [s, x] [t, t'] E σ ka = need (t' = t) (appA P (tel P t) (ev E s) σ (srcC σ (ev E x)) ka) := rfl
def appB (P : Program) (e : TypeId) (id s n : Nat) (b : Option Blk) (z : Option AV) (s' : Nat) (xs : List AV) (K : Nat → Nat → Nat → Blk → Prop) : Prop := match b, z with
  | some b, some z => needA (0 < tsz P e ∧ z.ok = true ∧ z.cells.length = tsz P e ∧ s = tsz P e ∧ b.sz = s ∧ b.e = e ∧ n ≤ b.es.length ∧ s' = s ∧ allOK s xs = true ∧ (n + xs.length) * tby P e ≤ 140737488355328 ∧ n + xs.length ≤ 4611686018427387904) K
        id s (n + xs.length) ⟨e, s, b.es.take n ++ xs⟩
  | _, _ => False
@[go_sem] theorem appA_own (e id s n s' : Nat) (xs : List AV) : appA P (some e) (.own id s 0 n) σ (some (s', xs)) ka = appB P e id s n (σ id) (tzA P e) s' xs ka := rfl
@[go_sem] theorem appB_some (e id s n s' : Nat) (b : Blk) (z : AV) (xs : List AV) : appB P e id s n (some b) (some z) s' xs ka =
    needA (0 < tsz P e ∧ z.ok = true ∧ z.cells.length = tsz P e ∧ s = tsz P e ∧ b.sz = s ∧ b.e = e ∧ n ≤ b.es.length ∧ s' = s ∧ allOK s xs = true ∧ (n + xs.length) * tby P e ≤ 140737488355328 ∧ n + xs.length ≤ 4611686018427387904) ka
        id s (n + xs.length) ⟨e, s, b.es.take n ++ xs⟩ := rfl
@[go_sem] theorem srcC_sl (s : Nat) (es : List AV) : srcC σ (.sl s es) = some (s, es) := rfl
def srcB (b : Option Blk) (s i n : Nat) : Option (Nat × List AV) := b.bind fun b => if b.sz = s ∧ i + n ≤ b.es.length then some (s, (b.es.drop i).take n) else none
@[go_sem] theorem srcC_own (id s i n : Nat) : srcC σ (.own id s i n) = srcB (σ id) s i n := rfl
@[go_sem] theorem srcB_some (b : Blk) (s i n : Nat) : srcB (some b) s i n = if b.sz = s ∧ i + n ≤ b.es.length then some (s, (b.es.drop i).take n) else none := rfl
@[go_sem] theorem appK_eq (d id s n : Nat) (b : Blk) : appK d K E σ id s n b = K (upd (killE (isId id) E) d (.own id s 0 n)) (updS (killS (isId id) σ) id (b.kill (isId id))) := rfl
@[go_sem] theorem storeC_ptr (id s i j : Nat) (v : AV) : storeC P t (.ptr id s i j) v dst K E σ = stoB P t (σ id) id s i j v K (updO E dst (.v undef)) σ := rfl
@[go_sem] theorem stoB_some (b : Blk) (id s i j : Nat) (v : AV) : stoB P t (some b) id s i j v K E σ = stoE P t b b.es[i]? id s i j v K E σ := rfl
@[go_sem] theorem stoE_some (b : Blk) (e : AV) (id s i j : Nat) (v : AV) : stoE P t b (some e) id s i j v K E σ =
    needS (b.sz = s ∧ v.ok = true ∧ v.cells.length = tsz P t ∧ 0 < tsz P t ∧ j + tsz P t ≤ s) K E (updS σ id ⟨b.e, b.sz, b.es.set i (setC e j v)⟩) := rfl
@[go_sem] theorem setC_eq (e : AV) (j : Nat) (v : AV) : setC e j v = if j = 0 ∧ v.cells.length = e.cells.length then v else .agg (e.cells.take j ++ v.cells ++ e.cells.drop (j + v.cells.length)) := rfl

/-! ### Calls -/
theorem callF_congr {d : Nat} {f f2 g g2 : AV} {as as' bs bs' : List AV} {E' E2 : Env} {σ' σ2 : Store} (h1 : f = f2) (h2 : as = as') (h3 : bs = bs') (h4 : g = g2) (h5 : E' = E2) (h6 : σ' = σ2) :
    callF S kd bi d f as dst K Kb E σ E' σ' bs g L = callF S kd bi d f2 as' dst K Kb E σ E2 σ2 bs' g2 L := by rw [h1, h2, h3, h4, h5, h6]
theorem callC_congr {d d' g : Nat} {b b' : Bool} {as as' : List AV} (h0 : d = d') (h : b = b') (h' : as = as') : callC S kd bi d g b as dst K E σ L = callC S kd bi d' g b' as' dst K E σ L := by rw [h0, h, h']
theorem impK_congr {x x' : AV × List (Nat × Blk)} (h : x = x') : impK x dst K E σ = impK x' dst K E σ := by rw [h]
theorem semD_congr {op : Op} : semD S dst op ty Kb E σ = semD S dst op ty Kb E σ := rfl
attribute [congr] callF_congr callC_congr impK_congr semD_congr
@[go_sem] theorem callF_clo (d g : Nat) (caps caps' : List AV) (as bs : List AV) (E' : Env) (σ' : Store) : callF S kd bi d (.clo g caps) as dst K Kb E σ E' σ' bs (.clo g caps') L =
    callC S kd bi d g (AV.namesL allB (bs ++ caps')) ((bs ++ caps').map (res σ')) dst K E' σ' L := rfl
@[go_sem] theorem callF_yld (d l : Nat) (f : AV) (as bs : List AV) (E' : Env) (σ' : Store) : callF S kd bi d (.yld l) as dst K Kb E σ E' σ' bs f L = need (bi = true ∧ l = S.yl ∧ AV.namesL allB as = false) (S.Y as (E S.N) (yldK S dst Kb E σ)) := rfl
@[go_sem] theorem impK_pair (v : AV) (bl : List (Nat × Blk)) : impK (v, bl) dst K E σ = K (updO E dst v) (addS σ bl) := rfl
@[go_sem] theorem yldK_eq (v g : AV) : yldK S dst K E σ v g = K (updO (upd E S.N g) dst v) σ := rfl
theorem callC_mk {d g : Nat} {b : Bool} {as : List AV} (r : AV) (h : Ev S.P g as r) (h1 : b = false ∨ r.flat = true) (h2 : rlen r ≤ 16) (h4 : kd = true ∨ r.dn = false) (h3 : impK (imp (16 * d) r) dst K E σ) : callC S kd bi d g b as dst K E σ L := .inl ⟨r, h, h1, h2, h4, h3⟩
theorem callC_sem {d g : Nat} {b : Bool} {as : List AV} (h : bi = true) (hl : L) : callC S kd bi d g b as dst K E σ L := .inr ⟨h, hl⟩
theorem branch_mk {c : Prop} {X Y : Env → Store → Prop} {E' : Env} (h : c → X E σ) (h' : ¬ c → Y E' σ) : branch c X E Y E' σ := ⟨h, h'⟩
/-- The same, with what leads to a contradiction left out. -/
theorem branch_l {c : Prop} {X Y : Env → Store → Prop} {E' : Env} (hc : c) (h : X E σ) : branch c X E Y E' σ := ⟨fun _ => h, fun hn => absurd hc hn⟩
theorem branch_r {c : Prop} {X Y : Env → Store → Prop} {E' : Env} (hc : ¬ c) (h : Y E' σ) : branch c X E Y E' σ := ⟨fun hn => absurd hn hc, fun _ => h⟩
attribute [go_sem] imp impL imp1 rlen AV.flat AV.flatL
section
variable {f : AV → AV}
@[go_sem] theorem res_v (x : Value) : res σ (.v x) = .v x := rfl
@[go_sem] theorem res_sl (s : Nat) (es : List AV) : res σ (.sl s es) = .sl s es := rfl
@[go_sem] theorem res_pt (e : AV) (j : Nat) : res σ (.pt e j) = .pt e j := rfl
@[go_sem] theorem res_any : res σ .any = .any := rfl
@[go_sem] theorem res_mp (es : List AV) : res σ (.mp es) = .mp es := rfl
@[go_sem] theorem res_own (id s i n : Nat) : res σ (.own id s i n) = resOwn (resF 7 σ) (σ id) s i n := rfl
@[go_sem] theorem res_ptr (id s i n : Nat) : res σ (.ptr id s i n) = resPtr (resF 7 σ) (σ id) s i n := rfl
@[go_sem] theorem res_mref (id : Nat) : res σ (.mref id) = resMap (resF 7 σ) (σ id) := rfl
@[go_sem] theorem res_agg (cs : List AV) : res σ (.agg cs) = .agg (resL (resF 7 σ) cs) := rfl
@[go_sem] theorem res_tup (cs : List AV) : res σ (.tup cs) = .tup (resL (resF 7 σ) cs) := rfl
@[go_sem] theorem res_clo (g : Nat) (cs : List AV) : res σ (.clo g cs) = .clo g (resL (resF 7 σ) cs) := rfl
variable {n : Nat}
@[go_sem] theorem resF_v (x : Value) : resF (n + 1) σ (.v x) = .v x := rfl
@[go_sem] theorem resF_sl (s : Nat) (es : List AV) : resF (n + 1) σ (.sl s es) = .sl s es := rfl
@[go_sem] theorem resF_pt (e : AV) (j : Nat) : resF (n + 1) σ (.pt e j) = .pt e j := rfl
@[go_sem] theorem resF_any : resF (n + 1) σ .any = .any := rfl
@[go_sem] theorem resF_mp (es : List AV) : resF (n + 1) σ (.mp es) = .mp es := rfl
@[go_sem] theorem resF_own (id s i m : Nat) : resF (n + 1) σ (.own id s i m) = resOwn (resF n σ) (σ id) s i m := rfl
@[go_sem] theorem resF_ptr (id s i m : Nat) : resF (n + 1) σ (.ptr id s i m) = resPtr (resF n σ) (σ id) s i m := rfl
@[go_sem] theorem resF_mref (id : Nat) : resF (n + 1) σ (.mref id) = resMap (resF n σ) (σ id) := rfl
@[go_sem] theorem resF_agg (cs : List AV) : resF (n + 1) σ (.agg cs) = .agg (resL (resF n σ) cs) := rfl
@[go_sem] theorem resF_tup (cs : List AV) : resF (n + 1) σ (.tup cs) = .tup (resL (resF n σ) cs) := rfl
@[go_sem] theorem resF_clo (g : Nat) (cs : List AV) : resF (n + 1) σ (.clo g cs) = .clo g (resL (resF n σ) cs) := rfl
@[go_sem] theorem resL_eq (cs : List AV) : resL f cs = if AV.namesL allB cs = true then cs.map f else cs := rfl
@[go_sem] theorem resOwn_some (b : Blk) (s i n : Nat) : resOwn f (some b) s i n = if i + n ≤ b.es.length ∧ b.sz = s then .sl s (((resL f b.es).drop i).take n) else .any := rfl
@[go_sem] theorem resPtr_some (b : Blk) (s i n : Nat) : resPtr f (some b) s i n = if b.sz = s then resE f b.es[i]? n else .any := rfl
@[go_sem] theorem resE_some (e : AV) (n : Nat) : resE f (some e) n = .pt (f e) n := rfl
@[go_sem] theorem resMap_some (b : Blk) : resMap f (some b) = if b.sz = 0 then .mp (resL f b.es) else .any := rfl
end

@[go_sem] theorem binC_nil_sl (P : Program) (t : TypeId) (op : BinOp) (s : Nat) (es : List AV) (k : AV → Prop) : binC P op t (.sl s es) (.v (.slice none 0 0)) k = nilC2 op (.sl s es) (tel P t) k := rfl
@[go_sem] theorem binC_nil_own (P : Program) (t : TypeId) (op : BinOp) (id s i n : Nat) (k : AV → Prop) : binC P op t (.own id s i n) (.v (.slice none 0 0)) k = nilC2 op (.own id s i n) (tel P t) k := rfl
theorem full_pos (s : Nat) (es : List AV) : (AV.full (.sl s es) = true) = (0 < es.length) := by cases es <;> simp [AV.full]
theorem full_pos' (id s i n : Nat) : (AV.full (.own id s i n) = true) = (0 < n) := by cases n <;> simp [AV.full]
@[go_sem] theorem nilC2_eql_sl (s : Nat) (es : List AV) (q : Option TypeId) (k : AV → Prop) : nilC2 .eql (.sl s es) q k = needV (0 < es.length ∧ q.isSome = true) k (.v (.bool false)) := by simp only [nilC2, full_pos]
@[go_sem] theorem nilC2_neq_sl (s : Nat) (es : List AV) (q : Option TypeId) (k : AV → Prop) : nilC2 .neq (.sl s es) q k = needV (0 < es.length ∧ q.isSome = true) k (.v (.bool true)) := by simp only [nilC2, full_pos]
@[go_sem] theorem nilC2_eql_own (id s i n : Nat) (q : Option TypeId) (k : AV → Prop) : nilC2 .eql (.own id s i n) q k = needV (0 < n ∧ q.isSome = true) k (.v (.bool false)) := by simp only [nilC2, full_pos']
@[go_sem] theorem nilC2_neq_own (id s i n : Nat) (q : Option TypeId) (k : AV → Prop) : nilC2 .neq (.own id s i n) q k = needV (0 < n ∧ q.isSome = true) k (.v (.bool true)) := by simp only [nilC2, full_pos']

/-! ### What is handed back -/
def rvC (P : Program) (E : Env) (σ : Store) : List ResultVar → List AV → (List AV → Prop) → Prop
  | [], vs, K => K vs
  | .tmp t :: r, vs, K => rvC P E σ r (vs ++ [E t]) K
  | .cell t ty :: r, vs, K => loadC P σ ty (E t) fun v => rvC P E σ r (vs ++ [v]) K
theorem cellsAt_mono {σ : Store} {a : AV} {K K' : List AV → Nat → Prop} (hK : ∀ cs j, K cs j → K' cs j) (h : cellsAt σ a K) : cellsAt σ a K' := by
  unfold cellsAt at *
  split at h
  · exact hK _ _ h
  · obtain ⟨k, h1, h2, e, h3, h4⟩ := h; exact ⟨k, h1, h2, e, h3, hK _ _ h4⟩
  · exact h.elim
theorem rvals_mono {σ : Store} : ∀ (l : List ResultVar) {K K' : List AV → Prop}, (∀ vs, K vs → K' vs) → rvals P E σ l K → rvals P E σ l K'
  | [], _, _, hK, h => hK _ h
  | .tmp t :: r, _, _, hK, h => rvals_mono r (fun _ hk => hK _ hk) h
  | .cell t ty :: r, _, _, hK, h => cellsAt_mono (fun _ _ ⟨v, hv, hr⟩ => ⟨v, hv, rvals_mono r (fun _ hk => hK _ hk) hr⟩) h
theorem rvC_of {σ : Store} : ∀ (l : List ResultVar) (vs : List AV) {K : List AV → Prop}, rvC P E σ l vs K → rvals P E σ l fun ws => K (vs ++ ws)
  | [], vs, K, h => by simpa [rvals, rvC] using h
  | .tmp t :: r, vs, K, h => by
    have := rvC_of r (vs ++ [E t]) h
    simpa [rvals] using this
  | .cell t ty :: r, vs, K, h => by
    obtain ⟨v, hv, hk⟩ := loadC_cells h
    have := rvC_of r (vs ++ [v]) hk
    refine cellsAt_mono (fun cs j hp => ⟨v, hp, rvals_mono r (fun ws hw => ?_) this⟩) hv
    simpa using hw
@[go_sem] theorem rvC_nil (vs : List AV) (K : List AV → Prop) : rvC P E σ [] vs K = K vs := rfl
@[go_sem] theorem rvC_tmp (t : Nat) (r : List ResultVar) (vs : List AV) (K : List AV → Prop) : rvC P E σ (.tmp t :: r) vs K = rvC P E σ r (vs ++ [E t]) K := rfl
@[go_sem] theorem rvC_cell (t : Nat) (ty : TypeId) (r : List ResultVar) (vs : List AV) (K : List AV → Prop) : rvC P E σ (.cell t ty :: r) vs K = loadC P σ ty (E t) fun v => rvC P E σ r (vs ++ [v]) K := rfl

/-- What a text must end in. -/
def retC (S : Sp) (fn : Func) (r : AV) : Exit → Env → Store → Prop
  | .normal => fun E σ => rvC S.P E σ fn.results.toList [] (retK σ fun r' => r' = r)
  | .ret => fun E σ => rvC S.P E σ fn.results.toList [] (retK σ fun r' => r' = r)
  | _ => fun _ _ => False
@[go_sem ↓] theorem retC_normal (fn : Func) (r : AV) : retC S fn r .normal E σ = rvC S.P E σ fn.results.toList [] (retK σ fun r' => r' = r) := rfl
@[go_sem ↓] theorem retC_ret (fn : Func) (r : AV) : retC S fn r .ret E σ = rvC S.P E σ fn.results.toList [] (retK σ fun r' => r' = r) := rfl
theorem retC_of (fn : Func) (r : AV) (e : Exit) (E : Env) (σ : Store) (h : retC S fn r e E σ) : retG S.P fn (fun vs _ σ => retK σ (· = r) vs) e E σ := by
  cases e <;> first | exact h.elim | exact rvC_of _ _ h

def expAll (σ : Store) (p : Nat → Bool) : List AV → Prop
  | [] => True
  | v :: r => expOK1 σ p v ∧ expAll σ p r
theorem expAll_iff (p : Nat → Bool) (vs : List AV) : (∀ v ∈ vs, expOK1 σ p v) ↔ expAll σ p vs := by
  induction vs with
  | nil => simp [expAll]
  | cons v vs ih => simp [expAll, ← ih]
variable {R : AV → Prop}
theorem topP_nil {vs : List AV} (h : topIds vs = []) : topP vs = inL [] := by funext i; simp [topP, h, inL]
theorem namesB_nil (a : AV) : AV.namesB (inL []) a = false := by rw [inL_nil]; exact AV.namesB_none a
@[go_sem] theorem retK_v (x : Value) : retK σ R [.v x] = R (.v x) := by
  simp only [retK, expOK, topIds, AV.single, expo, topP_nil (vs := [.v x]) rfl, killS_nil, res_v, eq_iff_iff, true_and]
  refine ⟨fun h => h.2, fun h => ⟨⟨by simp, fun v hv => ?_⟩, h⟩⟩
  simp only [List.mem_singleton] at hv; subst hv; rfl
@[go_sem] theorem retK_sl (s : Nat) (es : List AV) : retK σ R [.sl s es] = R (.sl s es) := by
  simp only [retK, expOK, topIds, AV.single, expo, topP_nil (vs := [.sl s es]) rfl, killS_nil, res_sl, eq_iff_iff, true_and]
  refine ⟨fun h => h.2, fun h => ⟨⟨by simp, fun v hv => ?_⟩, h⟩⟩
  simp only [List.mem_singleton] at hv; subst hv; rfl
@[go_sem] theorem retK_pt (e : AV) (j : Nat) : retK σ R [.pt e j] = R (.pt e j) := by
  simp only [retK, expOK, topIds, AV.single, expo, topP_nil (vs := [.pt e j]) rfl, killS_nil, res_pt, eq_iff_iff, true_and]
  refine ⟨fun h => h.2, fun h => ⟨⟨by simp, fun v hv => ?_⟩, h⟩⟩
  simp only [List.mem_singleton] at hv; subst hv; rfl
@[go_sem] theorem retK_agg (cs : List AV) : retK σ R [.agg cs] = R (res σ (.agg cs)) := by
  simp only [retK, expOK, topIds, AV.single, expo, topP_nil (vs := [.agg cs]) rfl, killS_nil, eq_iff_iff, true_and]
  refine ⟨fun h => h.2, fun h => ⟨⟨by simp, fun v hv => ?_⟩, h⟩⟩
  simp only [List.mem_singleton] at hv; subst hv; exact namesB_nil _
def expoO (b : Option Blk) (s n : Nat) (ptr : Bool) (σ : Store) (p : Nat → Bool) (K : AV → Prop) : Prop := match b, ptr with
  | some k, false => needV (k.sz = s ∧ n ≤ k.es.length ∧ AV.namesL p k.es = false) K (.new k.e s (resL (res (killS p σ)) (k.es.take n)))
  | some k, true => needV (k.sz = s ∧ AV.namesL p k.es = false) K (.nptr k.e s (resL (res (killS p σ)) k.es))
  | none, _ => False
theorem topP_one (vs : List AV) (id : Nat) (h : topIds vs = [id]) : topP vs = isId id := by
  funext i; simp only [topP, h, isId, List.contains_cons, List.contains_nil, Bool.or_false]
@[go_sem] theorem retK_own (id s n : Nat) : retK σ R [.own id s 0 n] = expoO (σ id) s n false σ (isId id) R := by
  simp only [retK, expOK, topIds, AV.single, expo, topP_one [.own id s 0 n] id rfl, eq_iff_iff, true_and]
  unfold expoO needV
  cases hb : σ id with
  | none =>
    simp only [iff_false]
    intro ⟨⟨_, h⟩, _⟩
    have := h _ (by simp : AV.own id s 0 n ∈ [AV.own id s 0 n])
    simp [expOK1, hb] at this
  | some k =>
    refine ⟨fun ⟨⟨_, h⟩, hR⟩ => ?_, fun ⟨h, hR⟩ => ⟨⟨by simp, fun v hv => ?_⟩, hR⟩⟩
    · have := h _ (by simp : AV.own id s 0 n ∈ [AV.own id s 0 n])
      simp only [expOK1, hb] at this
      obtain ⟨k', hk, h1, h2, h3⟩ := this
      cases hk; exact ⟨⟨h1, h2, h3⟩, hR⟩
    · simp only [List.mem_singleton] at hv; subst hv
      exact ⟨k, hb, h⟩
@[go_sem] theorem expoO_f (b : Blk) (s n : Nat) (p : Nat → Bool) : expoO (some b) s n false σ p R = needV (b.sz = s ∧ n ≤ b.es.length ∧ AV.namesL p b.es = false) R (.new b.e s (resL (res (killS p σ)) (b.es.take n))) := rfl
@[go_sem] theorem expoO_t (b : Blk) (s n : Nat) (p : Nat → Bool) : expoO (some b) s n true σ p R = needV (b.sz = s ∧ AV.namesL p b.es = false) R (.nptr b.e s (resL (res (killS p σ)) b.es)) := rfl
@[go_sem] theorem retK_clo (g : Nat) (caps : List AV) : retK σ R [.clo g caps] = need ((topIds caps).Nodup ∧ expAll σ (topP caps) caps) (R (.clo g (caps.map (expo σ (topP caps))))) := by
  show (((topIds caps).Nodup ∧ ∀ v ∈ caps, expOK1 σ (topP caps) v) ∧ _) = _
  rw [expAll_iff]; rfl
/-- Several results. -/
@[go_sem] theorem retK_two (a b : AV) (l : List AV) : retK σ R (a :: b :: l) = need ((topIds (a :: b :: l)).Nodup ∧ expAll σ (topP (a :: b :: l)) (a :: b :: l)) (R (.tup ((a :: b :: l).map (expo σ (topP (a :: b :: l)))))) := by
  have : retK σ R (a :: b :: l) = (expOK σ (a :: b :: l) ∧ R (.tup ((a :: b :: l).map (expo σ (topP (a :: b :: l)))))) := by
    unfold retK; split <;> first | rfl | simp_all
  rw [this]; unfold need expOK; rw [expAll_iff]
attribute [go_sem] expAll
@[go_sem] theorem topIds_v (x : Value) (l : List AV) : topIds (.v x :: l) = topIds l := rfl
@[go_sem] theorem topIds_sl (s : Nat) (es l : List AV) : topIds (.sl s es :: l) = topIds l := rfl
@[go_sem] theorem topIds_agg (es l : List AV) : topIds (.agg es :: l) = topIds l := rfl
@[go_sem] theorem topIds_own (id s n : Nat) (l : List AV) : topIds (.own id s 0 n :: l) = id :: topIds l := rfl
@[go_sem] theorem topIds_ptr (id s : Nat) (l : List AV) : topIds (.ptr id s 0 0 :: l) = id :: topIds l := rfl
@[go_sem] theorem topIds_nil : topIds [] = [] := rfl
@[go_sem] theorem topP_at (l : List AV) (i : Nat) : topP l i = (topIds l).contains i := rfl
@[go_sem] theorem exp1_v (x : Value) : expOK1 σ p (.v x) = True := by simp [expOK1, AV.namesB]
@[go_sem] theorem exp1_sl (s : Nat) (es : List AV) : expOK1 σ p (.sl s es) = True := by simp [expOK1, AV.namesB]
@[go_sem] theorem exp1_agg (es : List AV) : expOK1 σ p (.agg es) = (AV.namesL p es = false) := rfl
def exp1O (b : Option Blk) (s n : Nat) (p : Nat → Bool) : Prop := match b with | some k => k.sz = s ∧ n ≤ k.es.length ∧ AV.namesL p k.es = false | none => False
@[go_sem] theorem exp1_own (id s n : Nat) : expOK1 σ p (.own id s 0 n) = exp1O (σ id) s n p := by
  unfold exp1O; simp only [expOK1]; cases σ id <;> simp
@[go_sem] theorem exp1O_some (b : Blk) (s n : Nat) : exp1O (some b) s n p = (b.sz = s ∧ n ≤ b.es.length ∧ AV.namesL p b.es = false) := rfl
def exp1P (b : Option Blk) (s : Nat) (p : Nat → Bool) : Prop := match b with | some k => k.sz = s ∧ AV.namesL p k.es = false | none => False
@[go_sem] theorem exp1_ptr (id s : Nat) : expOK1 σ p (.ptr id s 0 0) = exp1P (σ id) s p := by
  unfold exp1P; simp only [expOK1]; cases σ id <;> simp
@[go_sem] theorem exp1P_some (b : Blk) (s : Nat) : exp1P (some b) s p = (b.sz = s ∧ AV.namesL p b.es = false) := rfl
def expoP (b : Option Blk) (s : Nat) (σ : Store) (p : Nat → Bool) : AV := match b with | some k => .nptr k.e s (resL (res (killS p σ)) k.es) | none => .any
@[go_sem] theorem expo_ptr (id s : Nat) : expo σ p (.ptr id s 0 0) = expoP (σ id) s σ p := by unfold expoP; simp only [expo]; cases σ id <;> rfl
@[go_sem] theorem expoP_some (b : Blk) (s : Nat) : expoP (some b) s σ p = .nptr b.e s (resL (res (killS p σ)) b.es) := rfl
@[go_sem] theorem expo_v (x : Value) : expo σ p (.v x) = .v x := rfl
@[go_sem] theorem expo_sl (s : Nat) (es : List AV) : expo σ p (.sl s es) = .sl s es := rfl
@[go_sem] theorem expo_agg (es : List AV) : expo σ p (.agg es) = res (killS p σ) (.agg es) := rfl
def expoB (b : Option Blk) (s n : Nat) (σ : Store) (p : Nat → Bool) : AV := match b with | some k => .new k.e s (resL (res (killS p σ)) (k.es.take n)) | none => .any
@[go_sem] theorem expo_own (id s n : Nat) : expo σ p (.own id s 0 n) = expoB (σ id) s n σ p := by unfold expoB; simp only [expo]; cases σ id <;> rfl
@[go_sem] theorem expoB_some (b : Blk) (s n : Nat) : expoB (some b) s n σ p = .new b.e s (resL (res (killS p σ)) (b.es.take n)) := rfl
end

/-- Once more round. -/
def againQ (I : Nat → Env → Store → Prop) (n : Nat) (E : Env) (σ : Store) : Prop := ∃ m, m < n ∧ I m E σ
theorem loopC_mk {B : (Exit → Env → Store → Prop) → Env → Store → Prop} {Q : Exit → Env → Store → Prop} {E : Env} {σ : Store} (I : Nat → Env → Store → Prop) (n : Nat) (h0 : I n E σ)
    (hs : ∀ n E σ, I n E σ → B (thenQ (againQ I n) Q) E σ) : loopC B Q E σ := ⟨I, ⟨n, h0⟩, hs⟩
theorem againQ_mk {I : Nat → Env → Store → Prop} {n : Nat} {E : Env} {σ : Store} (m : Nat) (h : m < n) (hI : I m E σ) : againQ I n E σ := ⟨m, h, hI⟩

@[go_sem] theorem sp_P (P : Program) (f N : Nat) : (spOf P f N).P = P := rfl
@[go_sem] theorem sp_b (P : Program) (f N : Nat) : (spOf P f N).b = 131072 * (f + 1) := rfl
@[go_sem] theorem sp_N (P : Program) (f N : Nat) : (spOf P f N).N = N := rfl
@[go_sem] theorem sp_pin (P : Program) (f N id : Nat) : (spOf P f N).pin id = false := rfl

/-- **A function's contract from its text.** -/
theorem ev_of {P : Program} {f : FuncId} {fn : Func} {c : Code} {args : List AV} {r : AV} (hf : P.funcs[f]? = some fn) (hb : fn.body = some c) (hok : fnQ P fn c = true) (hmo : P.follows .mixedOrders = true)
    (hlen : args.length ≤ fn.ntmps) (h : awpC (spOf P f fn.ntmps) c (retC (spOf P f fn.ntmps) fn r) (initE args) fun _ => none) : Ev P f args r :=
  ev_of_awp hf hb (fnOK_of hok) hmo hlen (awpC_of (S := spOf P f fn.ntmps) (fun _ _ _ _ _ hk => (show False from hk).elim) c (retC_of fn r) h)

end Go.Vai

/- A heap-free account of the walk, fifth part; facts about types -/
import Derived.Test.YtndhglacgiidbaaGreatDoorKD
import Derived.Lib.UnsafeStr
import Derived.Laws.Externs
import Derived.DeepKeys
import Derived.Laws.IdiomRangeMap
import Derived.Sort.Grow
import Derived.Test.YtndhglacgiidbaaGreatDoorProg
set_option linter.unusedVariables false
set_option linter.unusedSimpArgs false
namespace Go.Vai
open Go.RowKit
section
variable {S : Sp} {dst : Option Nat} {ty : TypeId} {K : Env → Store → Prop} {E : Env} {σ : Store}
theorem semD_pure {op : Op} (r : AV) (hfit : (dst.all (decide <| · < S.N) && Op.low S.N op) = true) (hdf : ∀ c, op ≠ .defer c)
    (h : ∀ (C : Fx) (w : World) (ρ : Nat → Option Nat) (Im : Nat → Prop) (M : Str) (a : Act), Holds S C → Wit C E σ a w ρ Im M → (∀ u ∈ op.operands, Rep w ρ Im (ev E u) (a.eval u)) →
      ∃ y, (∀ pos after guard, (execOp a.eval ⟨dst, op, ty, pos, after, guard⟩).run S.P w = .ok (.value y) w) ∧ Rep w ρ Im r y) (hK : K (updO E dst r) σ) : semD S dst op ty K E σ := by
  intro pos after guard C H n a w Kc Q ⟨ρ, Im, M, hw⟩ hKc
  simp only [Bool.and_eq_true] at hfit
  obtain ⟨hdst, hlow⟩ := hfit
  have hdst' : ∀ d, dst = some d → d < C.N := fun d hd => by subst hd; rw [← H.N]; simpa using hdst
  have rep : ∀ u ∈ op.operands, Rep w ρ Im (ev E u) (a.eval u) := fun u hu => ev_rep hw.env (by rw [hw.size, ← H.N]; exact low_of hlow hu)
  obtain ⟨y, hrun, hr⟩ := h C w ρ Im M a H hw rep
  exact wpIn_value hdf (hrun pos after guard) (hKc _ _ _ _ hK ⟨ρ, Im, M, hw.put H.G hdst' hr⟩)
theorem toStr_mk {s t e : TypeId} {x : Operand} (l : List Int) (hx : srcC σ (ev E x) = some (1, l.map Y)) (hns : ∀ b, ev E x ≠ .v (.string b)) (hs : S.P.underlying s = some (.slice e)) (he : S.P.underlying e = some (.int .u8)) (ht : S.P.underlying t = some .string)
    (hK : K (updO E dst (.v (.string (strOfNums l)))) σ) (hfit : (dst.all (decide <| · < S.N) && Op.low S.N (.convert s t x)) = true := by kernel_rfl) : semD S dst (.convert s t x) ty K E σ := by
  refine semD_pure _ hfit (fun _ e => by cases e) (fun C w ρ Im M a H hw rep => ⟨_, fun _ _ _ => ?_, .im _ _ (.v (.string (strOfNums l)))⟩) hK
  have hr := rep x (by simp [Op.operands])
  obtain ⟨sz, xs, ⟨rfl, rfl⟩, hsrc⟩ := src_cells hw.inv (srcC_of (K := fun sz xs => sz = 1 ∧ xs = l.map Y) hx ⟨rfl, rfl⟩) hr
  rcases hsrc with ⟨ad, cap, hy, _, hmem⟩ | ⟨b, hb, _⟩
  · rw [List.length_map] at hy
    cases ad with
    | none =>
      rcases hmem with ⟨h0, _⟩ | ⟨b, o, h0, _⟩
      · have hl : l = [] := by simpa using h0
        subst hl
        simp only [execOp, hy, Sem.run_bind, run_convert_bytes_nil w s e hs he _ _ t ht, Result.andThen_ok, Sem.run_pure]
        rfl
      · cases h0
    | some ad =>
      rcases hmem with ⟨h0, _⟩ | ⟨b, o, h0, _, hc⟩
      · have hl : l = [] := by simpa using h0
        subst hl
        have := run_convert_bytes_back w s t e ad cap [] hs he ht (fun j hj => absurd hj (by simp))
        simp only [List.length_nil] at this hy
        simp only [execOp, hy, Sem.run_bind, this, Result.andThen_ok, Sem.run_pure]
        rfl
      · cases h0
        have hc : ∀ i, i < l.length → w.cell? ⟨b, o + i, none⟩ = some (.int .u8 (l.getD i 0)) := fun i hi => by
          obtain ⟨v, hv, _, hrv⟩ := hc i (Y (l.getD i 0)) 0 (Y (l.getD i 0)) (by simp [List.getElem?_map, List.getD_eq_getElem?_getD, hi]) rfl
          have := hrv.v_inv
          subst this
          simpa using hv
        simp only [execOp, hy, Sem.run_bind, run_convert_bytes_arg w s e hs he b o l.length cap l rfl hc t ht, Result.andThen_ok, Sem.run_pure]
  · exact absurd hb (hns b)
end
end Go.Vai
namespace Go.Vai
open Go.RowKit
section
variable {S : Sp} {dst : Option Nat} {ty : TypeId} {K : Env → Store → Prop} {E : Env} {σ : Store}
end
end Go.Vai
namespace Go.Vai
open Go.RowKit
section
variable {S : Sp} {dst : Option Nat} {ty : TypeId} {K : Env → Store → Prop} {E : Env} {σ : Store}
end
end Go.Vai
namespace Go.Vai
open Go.RowKit
def spM (P : Program) (f : FuncId) (N : Nat) (pins bad : List Nat) : Sp := { P, N, b := 131072 * (f + 1), pin := inI pins, yl := 0, Y := fun _ _ _ => False, bad := inI bad, old := fun i => Nat.blt (i / 16) (131072 * (f + 1)) || Nat.ble (131072 * (f + 1) + 100000) (i / 16) }
instance (P : Program) (f N : Nat) (pins bad : List Nat) : Plain (spM P f N pins bad) := ⟨fun _ _ _ _ _ hk => (show False from hk).elim⟩
section
variable (P : Program) (f N : Nat) (pins bad : List Nat)
@[go_sem] theorem spM_P : (spM P f N pins bad).P = P := rfl
@[go_sem] theorem spM_b : (spM P f N pins bad).b = 131072 * (f + 1) := rfl
@[go_sem] theorem spM_bad (id : Nat) : (spM P f N pins bad).bad id = bad.contains id := rfl
@[go_sem] theorem spM_N : (spM P f N pins bad).N = N := rfl
@[go_sem] theorem spM_pin (id : Nat) : (spM P f N pins bad).pin id = inI pins id := rfl
end
theorem lok_ofB (bad : List Nat) {P : Program} {f : FuncId} {fn : Func} {c : Code} {args : List AV} {l l' : List (Nat × Blk)} {r : AV} (pins : List Nat) (hf : P.funcs[f]? = some fn) (hb : fn.body = some c) (hok : fnB P fn bad c = true) (hmo : P.follows .mixedOrders = true)
    (hlen : args.length ≤ fn.ntmps) (hids : l.map (·.1) = l'.map (·.1)) (hpins : (pins.all fun i => (l.map (·.1)).contains i && (Nat.blt (i / 16) (131072 * (f + 1)) || Nat.ble (131072 * (f + 1) + 100000) (i / 16))) = true)
    (hold : (l.all fun p => Nat.blt (p.1 / 16) (131072 * (f + 1)) || Nat.ble (131072 * (f + 1) + 100000) (p.1 / 16)) = true)
    (h : awpC (spM P f fn.ntmps pins bad) c (retL (spM P f fn.ntmps pins bad) fn l' r) (initE args) (stO l)) : LOK P f (inI pins) args (stO l) r (stO l') := by
  simp only [fnB, Bool.and_eq_true, Bool.not_eq_true'] at hok
  obtain ⟨⟨⟨h1, h2⟩, h3⟩, h4⟩ := hok
  have h4 := Nat.le_of_ble_eq_true h4
  have h1 := codeOK_of c h1
  refine ⟨enters hf hb h3, fun w Im ρ vs hinv hgk hargs => ?_⟩
  let C : Fx := { w0 := w, X0 := fun b => ∃ id, ρ id = some b, Im0 := Im, G := fun _ _ _ => True, N := fn.ntmps, rd := none, pin := fun id => if inI pins id then some (ρ id) else none, J0 := Im, R0 := fun id b => ρ id = some b }
  simp only [List.all_eq_true, Bool.and_eq_true, Bool.or_eq_true] at hpins
  have hin : ∀ id, inI pins id = true → id ∈ pins := fun id hid => List.contains_iff_mem.1 hid
  have H : Holds (spM P f fn.ntmps pins bad) C := by
    refine ⟨rfl, gstable_true, fun _ _ _ hY => hY.elim, hmo, fun id b hp => ?_, fun id hp => ?_, h4, fun _ => rfl, fun id b _ hb => ?_, hgk, fun b hb => ⟨fun ⟨id, hid⟩ => hinv.apart id b hid (hgk.im hb), hinv.low b (hgk.im hb)⟩, (fun h => by cases h)⟩
    · simp only [C] at hp
      cases hn : inI pins id with
      | true => exact hn
      | false => simp [hn] at hp
    · rcases (hpins id (hin id hp)).2 with h' | h'
      · exact .inl (Nat.le_of_ble_eq_true h')
      · exact .inr (Nat.le_of_ble_eq_true h')
    · cases hs : stO l id with
      | none => exact absurd hs (hinv.live id b hb)
      | some k => exact List.all_eq_true.1 hold _ (stO_mem hs)
  have hawp := awpC_of (S := spM P f fn.ntmps pins bad) (fun _ _ _ _ _ hk => (show False from hk).elim) c (Q' := retG P fn fun vs _ σ => lretK (inI (l'.map (·.1))) l' r σ vs) (fun e E σ hk => by
    cases e <;> first | exact hk.elim | exact rvC_of _ _ hk) h
  refine body_sound (E0 := initE args) (S := spM P f fn.ntmps pins bad) (C := C) (ρ0 := ρ) (Im0 := Im) (M0 := ⟨fun _ => False, fun _ => False⟩) H rfl hf hb rfl h1 h2 ?_ hawp fun E σ tm w' ρ' I M us ys hk hrest hr => ?_
  · refine ⟨hinv, env_init hargs, ?_, Ext.refl _ _, fun i b hi => .inl ⟨⟨i, hi⟩, hi⟩, fun b hb => .inl hb, fun p => ?_, trivial, fun b hb => hb.elim, fun b hb => hb.elim, fun l r hr => (by cases hr), .nil, fun d hd => (by cases hd), fun b hb => ?_, fun id ob hp => ?_, fun b hb => hb⟩
    · simp only [Array.size_append, List.size_toArray, Array.size_replicate]
      have := hargs.1
      show vs.length + (fn.ntmps - vs.length) = fn.ntmps
      omega
    · show AV.namesB p (initE args fn.ntmps) = false
      rw [initE_out args _ hlen]; rfl
    · rcases hb with ⟨r, hr⟩ | hd
      · cases hr
      · cases hd
    · simp only [C] at hp
      split at hp
      · cases hp; rfl
      · cases hp
  · obtain ⟨ρ2, Im2, i2, a1, a2, a3, a4, a5⟩ := lret_sound (ρ0 := ρ) hrest hinv.low (fun id b h => h) (fun id b hb => ⟨by
      rw [← hids]
      have := hinv.live id b hb
      cases hs : stO l id with
      | none => exact absurd hs this
      | some k => exact List.mem_map.2 ⟨_, stO_mem hs, rfl⟩, hinv.lt hb, hinv.apart id b hb⟩) hr hk
    refine ⟨_, ρ2, Im2, rfl, hrest.ext, i2, fun b hb => ?_, a2, a3, fun id hid => ?_, a5⟩
    · exact a1 b (hrest.j0 b hb)
    · rw [a4 id (by
        have := (hpins id (hin id hid)).1
        rw [hids] at this; exact this)]
      exact hrest.pin id (ρ id) (by simp [C, hid])
end Go.Vai
namespace Go.Vai
open Go.RowKit
section
variable {P : Program} {S : Sp} {kd bi : Bool} {dst : Option Nat} {ty t : TypeId} {K Kb : Env → Store → Prop} {E : Env} {σ : Store} (aso : Array Operand) (ts : Array TypeId)
@[go_sem ↓] theorem aop_ustr : aopC S kd bi dst (.call { callee := .builtin .unsafeString, args := aso, argTypes := ts }) ty K Kb E σ = semD S dst (.call { callee := .builtin .unsafeString, args := aso, argTypes := ts }) ty Kb E σ := rfl
@[go_sem ↓] theorem aop_copy : aopC S kd bi dst (.call { callee := .builtin .copy, args := aso, argTypes := ts }) ty K Kb E σ = semD S dst (.call { callee := .builtin .copy, args := aso, argTypes := ts }) ty Kb E σ := rfl
@[go_sem ↓] theorem aop_cap : aopC S kd bi dst (.call { callee := .builtin .cap, args := aso, argTypes := ts }) ty K Kb E σ = semD S dst (.call { callee := .builtin .cap, args := aso, argTypes := ts }) ty Kb E σ := rfl
@[go_sem ↓] theorem aop_s2a (x : Operand) : aopC S kd bi dst (.sliceToArrayPointer t x) ty K Kb E σ = semD S dst (.sliceToArrayPointer t x) ty Kb E σ := rfl
end
end Go.Vai
namespace Go.Vai
open Go.RowKit
variable {P : Program} {C : Fx} {w : World} {ρ : Nat → Option Nat} {Im : Nat → Prop} {M : Str} {E : Env} {σ : Store} {a : Act}
def spZ (P : Program) (f : FuncId) (N l : Nat) (bad : List Nat) : Sp := { P, N, b := 131072 * (f + 1), pin := fun _ => false, yl := l, Y := seqY, bad := inI bad, old := fun i => Nat.blt (i / 16) (131072 * (f + 1)) || Nat.ble (131072 * (f + 1) + 100000) (i / 16) }
theorem spZ_mono (P : Program) (f : FuncId) (N l : Nat) (bad : List Nat) : YMono (spZ P f N l bad) := fun _ _ _ _ hK h => seqY_mono hK h
section
variable (P : Program) (f N l : Nat) (bad : List Nat)
@[go_sem] theorem spZ_P : (spZ P f N l bad).P = P := rfl
@[go_sem] theorem spZ_b : (spZ P f N l bad).b = 131072 * (f + 1) := rfl
@[go_sem] theorem spZ_bad (id : Nat) : (spZ P f N l bad).bad id = bad.contains id := rfl
@[go_sem] theorem spZ_N : (spZ P f N l bad).N = N := rfl
@[go_sem] theorem spZ_pin (id : Nat) : (spZ P f N l bad).pin id = false := rfl
@[go_sem] theorem spZ_yl : (spZ P f N l bad).yl = l := rfl
@[go_sem] theorem spZ_Y : (spZ P f N l bad).Y = seqY := rfl
end
theorem sok_ofB {f : FuncId} {fn : Func} {c : Code} {args : List AV} {xs : List (List AV)} {l0 : List (Nat × Blk)} (bad : List Nat) (hf : P.funcs[f]? = some fn) (hb : fn.body = some c) (hok : fnB P fn bad c = true) (hmo : P.follows .mixedOrders = true)
    (hlen : args.length < fn.ntmps) (hres : fn.results = #[]) (hxs : AV.namesL allB (xs.map .tup) = false)
    (hold : (l0.all fun p => Nat.blt (p.1 / 16) (131072 * (f + 1)) || Nat.ble (131072 * (f + 1) + 100000) (p.1 / 16)) = true)
    (h : ∀ l, awpC (spZ P f fn.ntmps l bad) c (fun e => match e with | .normal => fun E _ => E fn.ntmps = .tup [] ∨ E fn.ntmps = .any | .ret => fun E _ => E fn.ntmps = .tup [] ∨ E fn.ntmps = .any | _ => fun _ _ => False) (upd (initE (.yld l :: args)) fn.ntmps (.tup (xs.map .tup))) (stO l0)) : SOK P f args (stO l0) xs := by
  simp only [fnB, Bool.and_eq_true, Bool.not_eq_true'] at hok
  obtain ⟨⟨⟨h1, h2⟩, h3⟩, h4⟩ := hok
  have h4 := Nat.le_of_ble_eq_true h4
  have h1 := codeOK_of c h1
  have h : ∀ l, awp (spZ P f fn.ntmps l bad) c (retG P fn fun _ E _ => E fn.ntmps = .tup [] ∨ E fn.ntmps = .any) (upd (initE (.yld l :: args)) fn.ntmps (encG xs false)) (stO l0) := fun l =>
    awpC_of (spZ_mono P f fn.ntmps l bad) c (fun e E σ hk => by
      cases e <;> first | exact hk.elim | (simp only [retG, hres]; exact hk)) (h l)
  exact sok_core hf hb h1 h2 h3 h4 hmo hlen hxs (by intro id k hs; exact List.all_eq_true.1 hold _ (stO_mem hs)) h
theorem freeze_reg {S : Sp} (hY : YMono S) {id : Nat} {ops : Array Oper} {draw : Bool} {Q : Exit → Env → Store → Prop} {E : Env} {σ : Store} (F : List Nat) (h : regC S draw ops (Q .normal) (frE (inI F) σ E) (frS (inI F) σ))
    (hF : (F.all fun i => !S.old i && !S.pin i) = true := by kernel_rfl) (hfit : codeQ S.P S.N noBad (.region id ops draw) = true := by kernel_rfl) : semC S (.region id ops draw) Q E σ := by
  simp only [List.all_eq_true, Bool.and_eq_true, Bool.not_eq_true'] at hF
  have hin : ∀ {id}, inI F id = true → id ∈ F := fun h => List.contains_iff_mem.1 h
  have no : ∀ {id} {b : Bool}, b = true → (inI F id = true → b = false) → inI F id = false := fun {id b} hb hh => by
    cases hi : inI F id with
    | false => rfl
    | true => have := hh hi; rw [hb] at this; cases this
  exact freeze_mk hY F h (fun id hid => no hid fun hi => (hF id (hin hi)).2) (fun id hid => no hid fun hi => (hF id (hin hi)).1) hfit
theorem op_mk {S : Sp} [hY : Plain S] {dst : Option Nat} {op : Op} {ty : TypeId} {K : Env → Store → Prop} {E : Env} {σ : Store} (h : aopC S true true dst op ty K K E σ)
    (hfit : (dst.all (decide <| · < S.N) && Op.low S.N op && cls S.P op ty != 9) = true := by kernel_rfl) : semD S dst op ty K E σ := by
  intro pos after guard C H n a w Kc Q ⟨ρ, Im, M, hw⟩ hKc
  exact aop_sound H hw (o := ⟨dst, op, ty, pos, after, guard⟩) hfit true true (fun h => by cases h) (aopC_of hY.mono (fun _ _ h => h) (fun _ _ h => h) h) (fun _ _ _ _ => hKc _ _ _ _) (fun _ _ _ _ => hKc _ _ _ _)
theorem frz_free {c : AV} (h : AV.namesB allB c = false) (L p : Nat → Bool) (σ : Store) : frz L p σ c = c := by unfold frz; rw [if_pos (names_all h _)]
@[go_sem] theorem frz_yld (L p : Nat → Bool) (σ : Store) (l : Nat) : frz L p σ (.yld l) = .yld l := rfl
end Go.Vai
namespace Go.Vai
open Go.RowKit
def nnB : AV → Bool
  | .new .. => false
  | .nptr .. => false
  | _ => true
theorem R1_nn {w : World} {Im : Nat → Prop} {r : AV} {y : Value} {ob : Option Nat} (h : nnB r = true) : R1 w Im r y ob ↔ (ob = none ∧ IRep w Im r y) := by
  cases r <;> first | exact Iff.rfl | cases h
theorem RL_if {w : World} {Im : Nat → Prop} : ∀ {rs ss : List AV} {ys : List Value} {obs : List (Option Nat)}, (rs.all nnB) = true → (ss.all nnB) = true → asIfL rs ss → RL w Im rs ys obs → RL w Im ss ys obs
  | [], [], _, _, _, _, _, h => h
  | r :: rs, s :: ss, [], _, _, _, _, h => (h : False).elim
  | r :: rs, s :: ss, _ :: _, [], _, _, _, h => (h : False).elim
  | r :: rs, s :: ss, y :: ys, ob :: obs, h1, h2, h3, h => by
    simp only [List.all_cons, Bool.and_eq_true] at h1 h2
    obtain ⟨e1, e2⟩ := (R1_nn h1.1).1 h.1
    exact ⟨(R1_nn h2.1).2 ⟨e1, h3.1 _ _ _ e2⟩, RL_if h1.2 h2.2 h3.2 h.2⟩
  | [], _ :: _, _, _, _, _, h, _ => h.elim
  | _ :: _, [], _, _, _, _, h, _ => h.elim
theorem Ev.resL {P : Program} {f : FuncId} {args : List AV} {rs ss : List AV} (h : Ev P f args (.tup rs)) (h3 : asIfL rs ss) (h1 : (rs.all nnB) = true := by rfl) (h2 : (ss.all nnB) = true := by rfl) : Ev P f args (.tup ss) := by
  rintro xs r0 ⟨rfl, rfl⟩
  obtain ⟨a, b⟩ := h xs (.tup rs) ⟨rfl, rfl⟩
  refine ⟨a, fun w Im vs hlow hgk hv => (b w Im vs hlow hgk hv).mono fun e w' ⟨y, he, hx, Im1, g1, g2, ys, obs, g3, g4, g5⟩ => ⟨y, he, hx, Im1, g1, g2, ys, obs, g3, RL_if h1 h2 h3 g4, g5⟩⟩
end Go.Vai
namespace Go.Vai
open Go.RowKit
end Go.Vai
namespace Go.Vai
open Go.RowKit
theorem reg_mk {S : Sp} (hY : YMono S) {id : Nat} {ops : Array Oper} {draw : Bool} {Q : Exit → Env → Store → Prop} {E : Env} {σ : Store} (h : regC S draw ops (Q .normal) E σ)
    (hfit : codeQ S.P S.N noBad (.region id ops draw) = true := by kernel_rfl) : semC S (.region id ops draw) Q E σ := by
  intro C H n R hR a w ⟨ρ, Im, M, hw⟩
  have hok := codeOK_of _ hfit
  simp only [codeOK, Bool.and_eq_true, Bool.or_eq_true, Bool.not_eq_true', Bool.or_false, Bool.false_or, noBad, Bool.false_eq_true, false_or] at hok
  have hall : ∀ (i : Nat) (o : Oper), ops[i]? = some o → Oper.fits S.P S.N o = true := fun i o ho => List.all_eq_true.1 hok.1 o (Array.mem_toList_iff.2 (Array.mem_of_getElem? ho))
  unfold regC at h
  rw [struckC_eq] at h
  have hv := struck_mono (fun _ _ hk => opsC_of hY _ 0 (fun _ _ h => h) hk) _ _ h
  have hs : St C E σ a w := ⟨_, _, _, hw⟩
  cases draw with
  | false =>
    simp only [struck, Bool.false_eq_true, if_false] at hv
    refine wpIn_region ?_
    have := awpOps_sound H hall (n := n) (Q := R) (fun E σ a w hk hs => hR .normal E σ a w hk hs) ops.toList 0 _ _ a w (by simp) hv hs
    rw [Array.length_toList, ← List.range_eq_range'] at this
    exact this
  | true => exact draw_sound H ops hok.1 (by simpa using hok.2) n (Q .normal) R _ _ a w (fun E σ a w hk hs => hR .normal E σ a w hk hs) hv hs id
end Go.Vai
namespace Go.Vai
open Go.RowKit
theorem killS_of {p : Nat → Bool} {o : Option Blk} {k : Blk} (h : o = some k) (hv : Blk.kill p k = k) : o.map (Blk.kill p) = some k := by rw [h, Option.map_some, hv]
mutual
def AV.rn (π : Nat → Nat) : AV → AV
  | .own a s i n => .own (π a) s i n
  | .ptr a s i j => .ptr (π a) s i j
  | .mref a => .mref (π a)
  | .agg cs => .agg (AV.rnL π cs)
  | .tup cs => .tup (AV.rnL π cs)
  | .clo g cs => .clo g (AV.rnL π cs)
  | a => a
def AV.rnL (π : Nat → Nat) : List AV → List AV
  | [] => []
  | c :: cs => AV.rn π c :: AV.rnL π cs
end
theorem rnL_eq (π : Nat → Nat) : ∀ cs : List AV, AV.rnL π cs = cs.map (AV.rn π)
  | [] => rfl
  | c :: cs => by rw [AV.rnL, rnL_eq π cs]; rfl
theorem rn_cells (π : Nat → Nat) (e : AV) : (AV.rn π e).cells = e.cells.map (AV.rn π) := by
  cases e <;> simp [AV.rn, AV.cells, rnL_eq]
mutual
theorem AV.rn_free (π : Nat → Nat) : ∀ a : AV, AV.namesB allB a = false → AV.rn π a = a
  | .own .., h => by simp [AV.namesB, allB] at h
  | .ptr .., h => by simp [AV.namesB, allB] at h
  | .mref .., h => by simp [AV.namesB, allB] at h
  | .agg cs, h => by rw [AV.rn, AV.rnL_free π cs h]
  | .tup cs, h => by rw [AV.rn, AV.rnL_free π cs h]
  | .clo g cs, h => by rw [AV.rn, AV.rnL_free π cs h]
  | .any, _ => rfl
  | .v .., _ => rfl
  | .sl .., _ => rfl
  | .cut .., _ => rfl
  | .pt .., _ => rfl
  | .new .., _ => rfl
  | .nptr .., _ => rfl
  | .yld .., _ => rfl
  | .mp .., _ => rfl
theorem AV.rnL_free (π : Nat → Nat) : ∀ cs : List AV, AV.namesL allB cs = false → AV.rnL π cs = cs
  | [], _ => rfl
  | c :: cs, h => by
    simp only [AV.namesL, Bool.or_eq_false_iff] at h
    rw [AV.rnL, AV.rn_free π c h.1, AV.rnL_free π cs h.2]
end
def Blk.rn (π : Nat → Nat) (k : Blk) : Blk := ⟨k.e, k.sz, AV.rnL π k.es⟩
section
variable {w : World} {ρ : Nat → Option Nat} {Im : Nat → Prop} {π : Nat → Nat}
theorem IRep.rn {a : AV} {y : Value} (h : IRep w Im a y) : IRep w Im (AV.rn π a) y := by
  induction h with
  | any y => exact .any y
  | v x => exact .v x
  | agg cs ys hl h1 _ ih =>
    rw [AV.rn, rnL_eq]
    refine .agg _ ys (by simpa using hl) h1 fun j c y hc hy => ?_
    rw [List.getElem?_map] at hc
    obtain ⟨c0, h0, rfl⟩ := Option.map_eq_some_iff.1 hc
    exact ih j c0 y h0 hy
  | slnil sz a cap => exact .slnil ..
  | cut sz es a h ih => exact .cut sz es a h
  | sl sz es b o cap f hIm hcap hsz hcc hh ih => exact .sl sz es b o cap f hIm hcap hsz hcc hh
  | pt e j b o f hIm hcc hh ih => exact .pt e j b o f hIm hcc hh
  | tup vs ys hl _ ih =>
    rw [AV.rn, rnL_eq]
    refine .tup _ ys (by simpa using hl) fun j c y hc hy => ?_
    rw [List.getElem?_map] at hc
    obtain ⟨c0, h0, rfl⟩ := Option.map_eq_some_iff.1 hc
    exact ih j c0 y h0 hy
  | clo g caps ys hl _ ih =>
    rw [AV.rn, rnL_eq]
    refine .clo g _ ys (by simpa using hl) fun j c y hc hy => ?_
    rw [List.getElem?_map] at hc
    obtain ⟨c0, h0, rfl⟩ := Option.map_eq_some_iff.1 hc
    exact ih j c0 y h0 hy
  | yld l => exact .yld l
  | mpnil => exact .mpnil
  | mp es b ents clk f hIm hbb hl hes hh ih => exact .mp es b ents clk f hIm hbb hl hes hh
theorem Rep.rn (hπ : ∀ i, π (π i) = i) {a : AV} {y : Value} (h : Rep w ρ Im a y) : Rep w (fun i => ρ (π i)) Im (AV.rn π a) y := by
  induction h with
  | im a y h => exact .im _ y h.rn
  | agg cs ys hl h1 _ ih =>
    rw [AV.rn, rnL_eq]
    refine .agg _ ys (by simpa using hl) h1 fun j c y hc hy => ?_
    rw [List.getElem?_map] at hc
    obtain ⟨c0, h0, rfl⟩ := Option.map_eq_some_iff.1 hc
    exact ih j c0 y h0 hy
  | tup cs ys hl _ ih =>
    rw [AV.rn, rnL_eq]
    refine .tup _ ys (by simpa using hl) fun j c y hc hy => ?_
    rw [List.getElem?_map] at hc
    obtain ⟨c0, h0, rfl⟩ := Option.map_eq_some_iff.1 hc
    exact ih j c0 y h0 hy
  | clo g cs ys hl _ ih =>
    rw [AV.rn, rnL_eq]
    refine .clo g _ ys (by simpa using hl) fun j c y hc hy => ?_
    rw [List.getElem?_map] at hc
    obtain ⟨c0, h0, rfl⟩ := Option.map_eq_some_iff.1 hc
    exact ih j c0 y h0 hy
  | ownNil id sz h => exact .ownNil _ sz (by simp only [hπ]; exact h)
  | own id sz n b cap cur e hr hn hcap hb hsz hz => exact .own _ sz n b cap cur e (by simp only [hπ]; exact hr) hn hcap hb hsz hz
  | ownAt id sz i n b cap a hi hr hn ha hz => exact .ownAt _ sz i n b cap a hi (by simp only [hπ]; exact hr) hn ha hz
  | ptr id sz i j b hr hz => exact .ptr _ sz i j b (by simp only [hπ]; exact hr) hz
  | mref id b hr => exact .mref _ b (by simp only [hπ]; exact hr)
theorem Inv.rn {σ : Store} (hπ : ∀ i, π (π i) = i) (h : Inv w ρ Im σ) : Inv w (fun i => ρ (π i)) Im (fun i => (σ (π i)).map (Blk.rn π)) := by
  refine ⟨fun id k hk hr => ?_, fun id k b hk hr hz => ?_, fun id k b hk hr hz => ?_, fun i j b h1 h2 => ?_, fun id b hr hs => ?_, fun id b hr => h.apart _ b hr, h.low⟩
  · obtain ⟨k0, h0, rfl⟩ := Option.map_eq_some_iff.1 hk
    have := h.nil _ k0 h0 hr
    simp [Blk.rn, this, AV.rnL]
  · obtain ⟨k0, h0, rfl⟩ := Option.map_eq_some_iff.1 hk
    obtain ⟨ents, clk, hb, hl, hc⟩ := h.map _ k0 b h0 hr hz
    refine ⟨ents, clk, hb, by simpa [Blk.rn, rnL_eq] using hl, fun i m hm => ?_⟩
    obtain ⟨v, hv, hr'⟩ := hc i m hm
    refine ⟨AV.rn π v, ?_, hr'.rn hπ⟩
    simp only [Blk.rn, rnL_eq, List.getElem?_map, hv, Option.map_some, AV.rn, AV.rnL]
    try rfl
  · obtain ⟨k0, h0, rfl⟩ := Option.map_eq_some_iff.1 hk
    obtain ⟨cur, hb, hl, hs, hc⟩ := h.blk _ k0 b h0 hr hz
    refine ⟨cur, hb, fun e he => ?_, by simpa [Blk.rn, rnL_eq] using hs, fun i e j c he hc' => ?_⟩
    · simp only [Blk.rn, rnL_eq] at he
      obtain ⟨e0, h1, rfl⟩ := List.mem_map.1 he
      rw [rn_cells, List.length_map]; exact hl e0 h1
    · simp only [Blk.rn, rnL_eq, List.getElem?_map] at he
      obtain ⟨e0, h1, rfl⟩ := Option.map_eq_some_iff.1 he
      rw [rn_cells, List.getElem?_map] at hc'
      obtain ⟨c0, h2, rfl⟩ := Option.map_eq_some_iff.1 hc'
      obtain ⟨x, hx, h3, hr'⟩ := hc i e0 j c0 h1 h2
      exact ⟨x, hx, h3, hr'.rn hπ⟩
  · have := h.inj _ _ b h1 h2
    have e := congrArg π this
    rwa [hπ, hπ] at e
  · simp only [Option.map_eq_none_iff] at hs
    exact h.live _ b hr hs
end
theorem Wit.rn {S : Sp} {C : Fx} {E : Env} {σ : Store} {a : Act} {w : World} {ρ : Nat → Option Nat} {Im : Nat → Prop} {M : Str} (H : Holds S C) (h : Wit C E σ a w ρ Im M) (π : Nat → Nat) (hπ : ∀ i, π (π i) = i) (hm : ∀ i, π i ≠ i → S.old i = false ∧ S.pin i = false) :
    Wit C (fun t => AV.rn π (E t)) (fun i => (σ (π i)).map (Blk.rn π)) a w (fun i => ρ (π i)) Im M := by
  have hfree : AV.rn π (E C.N) = E C.N := AV.rn_free π _ (h.gh allB)
  refine ⟨h.inv.rn hπ, fun t y hy => (h.env t y hy).rn hπ, h.size, h.ext, fun id b hb => ?_, h.im, fun p => ?_, ?_, h.js, fun b hb => ?_, h.rd, h.nodup, h.df, fun b hb => ?_, fun id ob hp => ?_, h.j0⟩
  · rcases h.rng _ b hb with ⟨h1, h2⟩ | h1
    · have ho := H.fz _ b h1 h2
      have hid : π id = id := by
        by_cases e : π (π id) = π id
        · rwa [hπ, eq_comm] at e
        · have := (hm _ e).1; rw [ho] at this; cases this
      rw [hid] at h2
      exact .inl ⟨h1, h2⟩
    · exact .inr h1
  · show AV.namesB p (AV.rn π (E C.N)) = false
    rw [hfree]; exact h.gh p
  · show C.G (AV.rn π (E C.N)) M w
    rw [hfree]; exact h.g
  · obtain ⟨h1, h2, h3, h4⟩ := h.ms b hb
    exact ⟨h1, fun id => h2 _, h3, h4⟩
  · obtain ⟨h1, h2, h3⟩ := h.bk b hb
    exact ⟨fun id => h1 _, h2, h3⟩
  · have hpn := H.pin id ob hp
    have hid : π id = id := by
      by_cases e : π id = id
      · exact e
      · have := (hm _ e).2; rw [hpn] at this; cases this
    show ρ (π id) = ob
    rw [hid]; exact h.pin id ob hp
@[go_sem] theorem frz_agg (L p : Nat → Bool) (σ : Store) (cs : List AV) : frz L p σ (.agg cs) = if AV.namesB (notI L) (.agg cs) = false then .agg cs else res (killS p (killS L σ)) (((AV.agg cs).kill L).kill p) := rfl
section
variable (π : Nat → Nat)
attribute [go_sem] AV.rn
attribute [go_sem] AV.rnL
@[go_sem] theorem rn_blk (e : TypeId) (s : Nat) (es : List AV) : Blk.rn π ⟨e, s, es⟩ = ⟨e, s, AV.rnL π es⟩ := rfl
end
end Go.Vai
namespace Go.Vai
end Go.Vai
namespace Go.Vai
def depK (D : Nat → Bool) : List Edge → Prop
  | [] => True
  | e :: l => (Region.binds .any e = true → D e.on = true) ∧ depK D l
theorem depK_of {D : Nat → Bool} : ∀ {l : List Edge}, (∀ e ∈ l, Region.binds .any e = true → D e.on = true) → depK D l
  | [], _ => trivial
  | e :: l, h => ⟨h e (by simp), depK_of fun x hx => h x (by simp [hx])⟩
def stepsK (S : Sp) (ops : Array Oper) (J : (Nat → Bool) → Env → Store → Prop) : Nat → List Oper → Prop
  | _, [] => True
  | i, o :: l => (∀ D E σ, J D E σ → D i = false ∧ depK D o.after.toList → opsC S false ops i [o] (J (insJ D i)) E σ) ∧ stepsK S ops J (i + 1) l
theorem stepsJ_of {S : Sp} {ops : Array Oper} {J : (Nat → Bool) → Env → Store → Prop} : ∀ {l : List Oper} {i : Nat}, stepsK S ops J i l → stepsJ S ops J i l
  | [], _, _ => trivial
  | _ :: _, _, ⟨h1, h2⟩ => ⟨fun D hD hd E σ hJ => h1 D E σ hJ ⟨hD, depK_of hd⟩, stepsJ_of h2⟩
theorem region_K {S : Sp} [hY : Plain S] {id : Nat} {ops : Array Oper} {Q : Exit → Env → Store → Prop} {E : Env} {σ : Store} (J : (Nat → Bool) → Env → Store → Prop)
    (h0 : J (fun _ => false) E σ) (hsteps : stepsK S ops J 0 ops.toList) (hend : ∀ D E σ, (∀ i, i < ops.size → D i = true) → J D E σ → Q .normal E σ)
    (hfit : ops.toList.all (Oper.fits S.P S.N) = true := by kernel_rfl) (hedge : edgesQ 0 ops.toList = true := by kernel_rfl) : semC S (.region id ops true) Q E σ :=
  region_J hY.mono J h0 (stepsJ_of hsteps) hend hfit hedge
theorem cK {D : Nat → Bool} {a b : Nat} (h : D a = true → D b = true) : D b = false → D a = false := fun h1 => by
  cases e : D a with
  | false => rfl
  | true => rw [h e] at h1; cases h1
end Go.Vai
namespace Go.Vai
open Go.RowKit
section
variable {S : Sp} {C : Fx} {E : Env} {σ : Store} {a : Act} {w : World} {ρ : Nat → Option Nat} {Im : Nat → Prop} {M : Str}
theorem Wit.ghost (h : Wit C E σ a w ρ Im M) {w' : World} {r : Nat} {j : Nat → Prop} {g v : AV} {y : Value} {d : Nat} (hd : d < C.N) (hs : w.heap.size ≤ w'.heap.size) (hrs : r < w'.heap.size)
    (hos : w'.os = w.os) (ht : w'.tape = w.tape) (ho : w'.output = w.output) (hk : ∀ k, k < w.heap.size → k ≠ r → w'.heap[k]? = w.heap[k]?) (hr : M.m r ∨ w.heap.size ≤ r)
    (hv : Rep w' ρ Im v y) (hg : C.G g ⟨fun b => M.m b ∨ b = r, j⟩ w') (hn : ∀ p, AV.namesB p g = false) (hj : ∀ b, j b → Im b) :
    Wit C (upd (upd E d v) C.N g) σ (a.put (some d) y) w' ρ Im ⟨fun b => M.m b ∨ b = r, j⟩ := by
  have hown : ∀ id b, ρ id = some b → b < w.heap.size ∧ b ≠ r := fun id b hb => ⟨h.inv.lt hb, fun e => by
    subst e
    rcases hr with hr | hr
    · exact (h.ms _ hr).2.1 id hb
    · have := h.inv.lt hb; omega⟩
  have hIm : ∀ b, Im b → b < w.heap.size ∧ b ≠ r := fun b hb => ⟨h.inv.low b hb, fun e => by
    subst e
    rcases hr with hr | hr
    · exact (h.ms _ hr).2.2.1 hb
    · have := h.inv.low _ hb; omega⟩
  have hbk : ∀ b, C.book a b → b < w.heap.size ∧ b ≠ r := fun b hb => ⟨h.bklt hb, fun e => by
    subst e
    rcases hr with hr | hr
    · exact (h.bk _ hb).2.2 hr
    · have := h.bklt hb; omega⟩
  have rep : ∀ {c : AV} {z : Value}, Rep w ρ Im c z → Rep w' ρ Im c z := fun {c z} hc => Rep.mono (fun _ h => h) (fun b hb => hk b (hIm b hb).1 (hIm b hb).2) hc fun id _ => ⟨rfl, fun b hb cur e ⟨fr, h1, h2⟩ => ⟨cur, ⟨fr, by rw [hk b (hown id b hb).1 (hown id b hb).2]; exact h1, h2⟩, rfl⟩⟩
  have hrm : C.X0 r ∨ C.w0.heap.size ≤ r := by
    rcases hr with hr | hr
    · exact (h.ms _ hr).2.2.2
    · exact .inr (Nat.le_trans h.ext.size hr)
  have hput : (a.put (some d) y).defers = a.defers := put_defers ..
  have hb2 : ∀ b, C.book (a.put (some d) y) b → C.book a b := fun b hb => by unfold Fx.book at hb ⊢; rwa [hput] at hb
  refine ⟨h.inv.carry (fun k hkk => ?_) hs, fun t z hz => ?_, by rw [put_size]; exact h.size, ⟨hos.trans h.ext.os, ht.trans h.ext.tape, ho.trans h.ext.output, Nat.le_trans h.ext.size hs, fun k hk0 hx => ?_⟩, h.rng, h.im, fun p => ?_, ?_, hj, fun b hb => ?_, fun l r0 hl => ?_, by rw [hput]; exact h.nodup, fun D hD => ?_, fun b hb => ?_, h.pin, h.j0⟩
  · rcases hkk with ⟨id, hid⟩ | hkk
    · exact hk k (hown id k hid).1 (hown id k hid).2
    · exact hk k (hIm k hkk).1 (hIm k hkk).2
  · have hlt : t < C.N := by
      have h1 := (Array.getElem?_eq_some_iff.1 hz).1
      have h2 := h.size
      have h3 := put_size a (some d) y
      omega
    rw [upd_ne _ _ _ _ (by omega)]
    have henv : EnvRep w' ρ Im E a.tmps := fun t z hz => rep (h.env t z hz)
    exact henv.put (dst := some d) hv t z hz
  · have hne : k ≠ r := fun e => by subst e; rcases hrm with h1 | h1; exact hx h1; omega
    rw [hk k (Nat.lt_of_lt_of_le hk0 h.ext.size) hne]; exact h.ext.block k hk0 hx
  · rw [upd_same]; exact hn p
  · rw [upd_same]; exact hg
  · rcases hb with hb | rfl
    · obtain ⟨h1, h2, h3, h4⟩ := h.ms b hb
      exact ⟨by omega, h2, h3, h4⟩
    · exact ⟨hrs, fun id hid => (hown id b hid).2 rfl, fun hI => (hIm b hI).2 rfl, hrm⟩
  · have := hbk l (.inl ⟨r0, hl⟩)
    rw [hk l this.1 this.2]; exact h.rd l r0 hl
  · rw [hput] at hD
    obtain ⟨D', rfl, h1, h2⟩ := h.df D hD
    have := hbk D' (.inr hD)
    exact ⟨D', rfl, by rw [hk D' this.1 this.2]; exact h1, h2⟩
  · obtain ⟨h1, h2, h3⟩ := h.bk b (hb2 b hb)
    exact ⟨h1, h2, fun hh => by
      rcases hh with hh | hh
      · exact h3 hh
      · exact (hbk b (hb2 b hb)).2 hh⟩
end
theorem itA_inj {r r' : Nat} {ks ks' : List AV} {l l' : AV} (h : itA r ks l = itA r' ks' l') : r = r' ∧ ks = ks' ∧ l = l' := by
  unfold itA at h
  simp only [AV.tup.injEq, List.cons.injEq, AV.v.injEq, Value.pointer.injEq, Option.some.injEq, Addr.mk.injEq, AV.sl.injEq, and_true, true_and] at h
  exact h
theorem itA_names (p : Nat → Bool) (r : Nat) (ks : List AV) (k : Value) : AV.namesB p (itA r ks (.v k)) = false := rfl
theorem set_same (h : Array Obj) (r k : Nat) (o : Obj) (hk : k ≠ r) : (h.setIfInBounds r o)[k]? = h[k]? := by
  rw [Array.getElem?_setIfInBounds_ne (Ne.symm hk)]
theorem rangeMap_mk {S : Sp} {d : Nat} {t ty kt et : TypeId} {x : Operand} {K : Env → Store → Prop} {E : Env} {σ : Store} {α : Type} {l : List α} (kf : α → Value) (vf : α → AV) (hit : S.itf = true) (hx : ev E x = .mp (l.map fun p => .tup [.v (kf p), vf p])) (hne : l ≠ []) (ht : S.P.underlying t = some (.map kt et))
    (h : ∀ r, K (upd (upd E d (.v (.pointer (some ⟨r, 0, none⟩)))) S.N (itA r (l.map fun p => AV.v (kf p)) .any)) σ)
    (hfit : (Nat.blt d S.N && Op.low S.N (.range t x)) = true := by kernel_rfl) : semD S (some d) (.range t x) ty K E σ := by
  intro pos after guard C H n a w Kc Q ⟨ρ, Im, M, hw⟩ hKc
  simp only [Bool.and_eq_true] at hfit
  have hd : d < C.N := by rw [← H.N]; exact Nat.le_of_ble_eq_true hfit.1
  have hrx := ev_rep hw.env (x := x) (by rw [hw.size, ← H.N]; exact low_of hfit.2 (by simp [Op.operands]))
  rw [hx] at hrx
  have : ∃ bm ents clk, a.eval x = .map (some bm) ∧ Im bm ∧ w.heap[bm]? = some (.map ents clk) ∧ Bn ents clk ∧ ents.toList.map (fun m => (AV.v m.key)) = l.map fun p => AV.v (kf p) := by
    generalize a.eval x = y at hrx
    generalize hes : (l.map fun p => AV.tup [.v (kf p), vf p]) = es at hrx
    cases hrx with
    | im _ _ hrx =>
      cases hrx with
      | mpnil => simp at hes; exact (hne hes).elim
      | mp _ bm ents clk f hIm hb hl hk _ =>
        subst hes
        refine ⟨bm, ents, clk, rfl, hIm, hb, hl.2, List.ext_getElem? fun i => ?_⟩
        rw [List.getElem?_map, List.getElem?_map, Array.getElem?_toList]
        have hsz : l.length = ents.size := by simpa using hl.1
        by_cases hi : i < ents.size
        · have h1 := hk i ents[i] (Array.getElem?_eq_getElem hi)
          rw [List.getElem?_map] at h1
          rw [Array.getElem?_eq_getElem hi]
          cases hp : l[i]? with
          | none => rw [List.getElem?_eq_none_iff] at hp; omega
          | some p =>
            rw [hp] at h1
            simp only [Option.map_some, Option.some.injEq, AV.tup.injEq, List.cons.injEq, and_true] at h1
            simp only [Option.map_some, Option.some.injEq]
            exact h1.1.symm
        · rw [Array.getElem?_eq_none (by omega), List.getElem?_eq_none (by omega)]; rfl
  obtain ⟨bm, ents, clk, hxv, hIm, hb, hbn, hks⟩ := this
  have hlt := hw.inv.low bm hIm
  have hg := H.it hit
  have hw2 := hw.ghost (w' := w.alloc (.mapIter (some bm) clk #[] clk)) (r := w.heap.size) (j := fun b => b = bm) (g := itA w.heap.size (l.map fun p => AV.v (kf p)) .any) (v := .v (.pointer (some ⟨w.heap.size, 0, none⟩))) (d := d) hd
    (by simp) (by simp) rfl rfl rfl (fun k hk _ => Below.heap_alloc w _ k hk) (.inr (Nat.le_refl _)) (.im _ _ (.v _)) (by
      rw [hg]
      intro r ks last e
      obtain ⟨rfl, rfl, rfl⟩ := itA_inj e
      refine ⟨.inr rfl, bm, #[], clk, ents, rfl, World.alloc_heap_new w _, by rw [Below.heap_alloc w _ bm hlt]; exact hb, hbn, ?_, fun k hk => ?_⟩
      · rw [← hks]; unfold leftE; rw [List.filter_eq_self.2 fun _ _ => by simp]
      · cases hk) (fun p => rfl) (fun b hb => hb ▸ hIm)
  have h := h w.heap.size
  rw [H.N] at h
  refine wpIn_value (fun _ e => by cases e) ?_ (hKc _ _ _ _ h ⟨_, _, _, hw2⟩)
  simp only [execOp, hxv, Instr.range, Sem.run_bind, run_underlying ht w, Result.andThen_ok, MapKept.run_getObj_map hb, Sem.run_pure, run_newObj_alloc]
theorem left_push {ents : Array MapEntry} {clk : Nat} (hb : Bn ents clk) (seen : Array Nat) {e : MapEntry} (he : e ∈ leftE ents seen) : ∃ l1 l2, leftE ents seen = l1 ++ e :: l2 ∧ leftE ents (seen.push e.born) = l1 ++ l2 := by
  obtain ⟨l1, l2, h⟩ := List.append_of_mem he
  refine ⟨l1, l2, h, ?_⟩
  have hnd : ((leftE ents seen).map (·.born)).Nodup := by
    have : (leftE ents seen).Sublist ents.toList := List.filter_sublist
    exact hb.1.sublist (this.map _)
  have h2 : leftE ents (seen.push e.born) = (leftE ents seen).filter fun x => x.born != e.born := by
    unfold leftE
    rw [List.filter_filter]
    refine List.filter_congr fun x _ => ?_
    rw [Array.contains_push]
    cases hs : seen.contains x.born <;> cases hx : (x.born == e.born) <;> simp [bne, hx]
  rw [h2, h]
  rw [h, List.map_append, List.map_cons, List.nodup_append, List.nodup_cons] at hnd
  obtain ⟨n1, ⟨n2, n3⟩, n4⟩ := hnd
  rw [List.filter_append, List.filter_cons_of_neg (by simp)]
  congr 1
  · exact List.filter_eq_self.2 fun x hx => by
      simp only [bne_iff_ne, ne_eq]
      exact n4 x.born (List.mem_map.2 ⟨x, hx, rfl⟩) e.born (by simp)
  · exact List.filter_eq_self.2 fun x hx => by
      simp only [bne_iff_ne, ne_eq]
      intro e'
      exact n2 (List.mem_map.2 ⟨x, hx, e'⟩)
theorem run_next_at {P : Program} (w : World) (ty : TypeId) (r bm clk : Nat) (seen : Array Nat) (ents : Array MapEntry) (hr : w.heap[r]? = some (.mapIter (some bm) clk seen clk)) (hb : w.heap[bm]? = some (.map ents clk)) (hbn : Bn ents clk) :
    (leftE ents seen = [] ∧ (Instr.next (.pointer (some ⟨r, 0, none⟩)) false ty).run P w = .ok (.tuple #[.bool false]) w) ∨
    ∃ e ∈ leftE ents seen, ∃ n, (Instr.next (.pointer (some ⟨r, 0, none⟩)) false ty).run P w = .ok (.tuple #[.bool true, e.key, e.val]) { w with drawn := n, heap := w.heap.setIfInBounds r (.mapIter (some bm) clk (seen.push e.born) clk) } := by
  have hold : ∀ x ∈ ents.toList, x.born < clk := hbn.2
  simp only [Instr.next, getObj, Sem.run_bind, Sem.run, hr, hb, Result.andThen, next_test_false seen ents clk clk hold (Nat.le_refl _), Bool.false_eq_true, if_false]
  have hl : leftE ents seen = (Array.filter (fun e => !seen.contains e.born) ents).toList := by unfold leftE; rw [Array.toList_filter]
  have hmem : ∀ x ∈ (Array.filter (fun e => !seen.contains e.born) ents).toList, x.born < clk := fun x hx => hold x (by simp at hx ⊢; exact hx.1)
  rw [hl]
  generalize Array.filter (fun e => !seen.contains e.born) ents = L at hmem ⊢
  have e1 : L.filter (fun x => decide (x.born < clk)) = L := Array.filter_eq_self.2 (fun x hx => by simpa using hmem x (by simpa using hx))
  have e2 : L.filter (fun x => decide (x.born ≥ clk)) = #[] := by
    rw [Array.filter_eq_empty_iff]
    intro x hx
    have := hmem x (by simpa using hx)
    simp
    omega
  simp only [e1, e2, Array.append_empty]
  by_cases h0 : L.size = 0
  · left
    have : L = #[] := Array.eq_empty_of_size_eq_zero h0
    subst this
    refine ⟨rfl, ?_⟩
    simp [choose, Sem.run, Question.forced]
  · right
    have hne : L.isEmpty = false := by simp [Array.isEmpty, h0]
    simp only [hne, Bool.false_eq_true, if_false, Array.empty_append, Array.size_map]
    have hch : ∃ (j n : Nat), j < L.size ∧ (choose (Question.mapNext L.size)).run P w = .ok j { w with drawn := n } := by
      by_cases hf : L.size ≤ 1
      · exact ⟨0, w.drawn, by omega, by simp [choose, Sem.run, Question.forced, hf]⟩
      · exact ⟨_, w.drawn + 1, Nat.mod_lt _ (by omega), by
          simp only [choose, Sem.run, Question.forced, decide_eq_true_eq, hf, if_false, Question.cut]
          rfl⟩
    obtain ⟨j, n, hj, hrun⟩ := hch
    refine ⟨L[j], by simp, n, ?_⟩
    have hset : ∀ o', (setObj r o').run P { w with drawn := n } = .ok () { w with drawn := n, heap := w.heap.setIfInBounds r o' } := fun o' => by
      simp only [setObj, Sem.run, hr]
    simp only [hrun, Array.getElem?_map, Array.getElem?_eq_getElem hj, Option.map_some, Sem.run_bind, hset, Result.andThen]
    rfl
theorem next_mk {S : Sp} {d : Nat} {ty : TypeId} {x : Operand} {K : Env → Store → Prop} {E : Env} {σ : Store} {r : Nat} {ks : List AV} {last : AV} (hit : S.itf = true) (hx : ev E x = .v (.pointer (some ⟨r, 0, none⟩))) (hE : E S.N = itA r ks last)
    (h0 : ks = [] → K (upd E d (.tup [B false])) σ)
    (h1 : ∀ l1 k l2, ks = l1 ++ .v k :: l2 → K (upd (upd E d (.tup [B true, .v k, .any])) S.N (itA r (l1 ++ l2) (.v k))) σ)
    (hfit : (Nat.blt d S.N && Op.low S.N (.next x false)) = true := by kernel_rfl) : semD S (some d) (.next x false) ty K E σ := by
  intro pos after guard C H n a w Kc Q ⟨ρ, Im, M, hw⟩ hKc
  simp only [Bool.and_eq_true] at hfit
  have hd : d < C.N := by rw [← H.N]; exact Nat.le_of_ble_eq_true hfit.1
  have hrx := ev_rep hw.env (x := x) (by rw [hw.size, ← H.N]; exact low_of hfit.2 (by simp [Op.operands]))
  rw [hx] at hrx
  have hxv := hrx.v_inv
  have hg := hw.g
  rw [H.it hit, ← H.N] at hg
  obtain ⟨hm, bm, seen, clk, ents, hj, hr, hb, hbn, hks, _⟩ := hg r ks last hE
  have hI := hw.js bm hj
  have hlt := hw.inv.low bm hI
  have hrlt := (hw.ms r hm).1
  have hne : bm ≠ r := fun e => by subst e; exact (hw.ms _ hm).2.2.1 hI
  rcases run_next_at (P := S.P) w ty r bm clk seen ents hr hb hbn with ⟨hl, hrun⟩ | ⟨e, he, m, hrun⟩
  · rw [hl] at hks
    refine wpIn_value (fun _ e => by cases e) ?_ (hKc _ _ _ _ (h0 hks) ⟨_, _, _, hw.put H.G (dst := some d) (v := .tup [B false]) (y := .tuple #[.bool false]) (fun _ e => by cases e; exact hd) (.im _ _ (.tup [B false] [.bool false] rfl fun j c y hc hy => ?_))⟩)
    · simp only [execOp, hxv]; rw [Sem.run_bind, hrun]; rfl
    · match j with
      | 0 => simp at hc hy; subst hc; subst hy; exact .v _
      | j + 1 => simp at hc
  · obtain ⟨l1, l2, h2, h3⟩ := left_push hbn seen he
    have hks2 : ks = l1.map (fun m => (AV.v m.key)) ++ .v e.key :: l2.map (fun m => (AV.v m.key)) := by rw [hks, h2]; simp
    have hK := h1 _ _ _ hks2
    rw [H.N] at hK
    have hmem : e ∈ ents.toList := (List.mem_filter.1 he).1
    have hw2 := hw.ghost (w' := { w with drawn := m, heap := w.heap.setIfInBounds r (.mapIter (some bm) clk (seen.push e.born) clk) }) (r := r) (j := fun b => b = bm) (g := itA r (l1.map (fun m => (AV.v m.key)) ++ l2.map (fun m => (AV.v m.key))) (.v e.key)) (v := .tup [B true, .v e.key, .any]) (y := .tuple #[.bool true, e.key, e.val]) (d := d) hd
      (by simp) (by simpa using hrlt) rfl rfl rfl (fun k _ hk => set_same _ _ _ _ hk) (.inl hm) (.im _ _ (.tup [B true, .v e.key, .any] [.bool true, e.key, e.val] rfl fun j c y hc hy => by
        match j with
        | 0 => simp at hc hy; subst hc; subst hy; exact .v _
        | 1 => simp at hc hy; subst hc; subst hy; exact .v _
        | 2 => simp at hc hy; subst hc; subst hy; exact .any _
        | j + 3 => simp at hc)) (by
        rw [H.it hit]
        intro r' ks' last' e'
        obtain ⟨rfl, rfl, rfl⟩ := itA_inj e'
        refine ⟨.inr rfl, bm, seen.push e.born, clk, ents, rfl, by simp [hrlt], by rw [set_same _ _ _ _ hne]; exact hb, hbn, by rw [h3, List.map_append], fun k hk => ?_⟩
        cases hk
        exact ⟨e, hmem, by simp, rfl⟩) (fun p => rfl) (fun b hb => hb ▸ hI)
    refine wpIn_value (fun _ e => by cases e) ?_ (hKc _ _ _ _ hK ⟨_, _, _, hw2⟩)
    simp only [execOp, hxv]; rw [Sem.run_bind, hrun]; rfl
theorem entry_mk {S : Sp} {d : Nat} {ty : TypeId} {x : Operand} {K : Env → Store → Prop} {E : Env} {σ : Store} {r : Nat} {ks : List AV} {k : Value} (hit : S.itf = true) (hx : ev E x = .v (.pointer (some ⟨r, 0, none⟩))) (hE : E S.N = itA r ks (.v k))
    (h : K (upd E d (.tup [.v k, .any])) σ)
    (hfit : (Nat.blt d S.N && Op.low S.N (.entry x)) = true := by kernel_rfl) : semD S (some d) (.entry x) ty K E σ := by
  intro pos after guard C H n a w Kc Q ⟨ρ, Im, M, hw⟩ hKc
  simp only [Bool.and_eq_true] at hfit
  have hd : d < C.N := by rw [← H.N]; exact Nat.le_of_ble_eq_true hfit.1
  have hrx := ev_rep hw.env (x := x) (by rw [hw.size, ← H.N]; exact low_of hfit.2 (by simp [Op.operands]))
  rw [hx] at hrx
  have hxv := hrx.v_inv
  have hg := hw.g
  rw [H.it hit, ← H.N] at hg
  obtain ⟨hm, bm, seen, clk, ents, hj, hr, hb, hbn, hks, hlast⟩ := hg r ks _ hE
  obtain ⟨e, he, hs, rfl⟩ := hlast k rfl
  have hf : ents.find? (·.born == e.born) = some e := by rw [← Array.find?_toList]; exact find_born e ents.toList hbn.1 he
  refine wpIn_value (fun _ e => by cases e) ?_ (hKc _ _ _ _ h ⟨_, _, _, hw.put H.G (dst := some d) (v := .tup [.v e.key, .any]) (y := .tuple #[e.key, e.val]) (fun _ e => by cases e; exact hd) (.im _ _ (.tup [.v e.key, .any] [e.key, e.val] rfl fun j c y hc hy => ?_))⟩)
  · simp only [execOp, hxv, Instr.entry, getObj, Sem.run_bind, Sem.run, hr, hb, hs, Result.andThen, bne_self_eq_false, Bool.false_eq_true, if_false, hf]
    rfl
  · match j with
    | 0 => simp at hc hy; subst hc; subst hy; exact .v _
    | 1 => simp at hc hy; subst hc; subst hy; exact .any _
    | j + 2 => simp at hc
section
variable {S : Sp} {kd bi : Bool} {dst : Option Nat} {ty t : TypeId} {K Kb : Env → Store → Prop} {E : Env} {σ : Store}
@[go_sem ↓] theorem aop_range (x : Operand) : aopC S kd bi dst (.range t x) ty K Kb E σ = semD S dst (.range t x) ty Kb E σ := rfl
@[go_sem ↓] theorem aop_next (x : Operand) (c : Bool) : aopC S kd bi dst (.next x c) ty K Kb E σ = semD S dst (.next x c) ty Kb E σ := rfl
@[go_sem ↓] theorem aop_entry (x : Operand) : aopC S kd bi dst (.entry x) ty K Kb E σ = semD S dst (.entry x) ty Kb E σ := rfl
end
def spI (P : Program) (f : FuncId) (N : Nat) (bad : List Nat) : Sp := { P, N, b := 131072 * (f + 1), pin := fun _ => false, yl := 0, Y := fun _ _ _ => False, bad := inI bad, old := fun _ => false, itf := true }
instance (P : Program) (f N : Nat) (bad : List Nat) : Plain (spI P f N bad) := ⟨fun _ _ _ _ _ hk => (show False from hk).elim⟩
section
variable (P : Program) (f N : Nat) (bad : List Nat)
@[go_sem] theorem spI_P : (spI P f N bad).P = P := rfl
@[go_sem] theorem spI_b : (spI P f N bad).b = 131072 * (f + 1) := rfl
@[go_sem] theorem spI_N : (spI P f N bad).N = N := rfl
@[go_sem] theorem spI_pin (id : Nat) : (spI P f N bad).pin id = false := rfl
@[go_sem] theorem spI_bad (id : Nat) : (spI P f N bad).bad id = bad.contains id := rfl
@[go_sem] theorem spI_itf : (spI P f N bad).itf = true := rfl
end
theorem ev_ofI {P : Program} {f : FuncId} {fn : Func} {c : Code} {args : List AV} {r : AV} (bad : List Nat) (hf : P.funcs[f]? = some fn) (hb : fn.body = some c) (hok : fnB P fn bad c = true) (hmo : P.follows .mixedOrders = true)
    (hlen : args.length ≤ fn.ntmps) (h : awpC (spI P f fn.ntmps bad) c (retC (spI P f fn.ntmps bad) fn r) (initE args) fun _ => none) : Ev P f args r := by
  simp only [fnB, Bool.and_eq_true, Bool.not_eq_true'] at hok
  obtain ⟨⟨⟨h1, h2⟩, h3⟩, h4⟩ := hok
  have h4 := Nat.le_of_ble_eq_true h4
  have h1 := codeOK_of c h1
  have h := awpC_of (S := spI P f fn.ntmps bad) (fun _ _ _ _ _ hk => (show False from hk).elim) c (retC_of fn r) h
  intro args' r0 he
  rw [he.1, he.2]
  refine ⟨enters hf hb h3, fun w Im vs hlow hgk hargs => ?_⟩
  let C : Fx := { w0 := w, X0 := fun _ => False, Im0 := Im, G := itG, N := fn.ntmps, rd := none, pin := fun _ => none, J0 := Im }
  have H : Holds (spI P f fn.ntmps bad) C := ⟨rfl, gstable_it, fun _ _ _ hY => hY.elim, hmo, fun _ _ hp => (by cases hp), fun _ hp => (by cases hp), h4, fun _ => rfl, fun _ _ h _ => h.elim, hgk, fun b hb => ⟨fun h => h, hlow b (hgk.im hb)⟩, (fun _ => rfl)⟩
  have hreps : Reps w (fun _ => none) Im args vs := ⟨hargs.1, fun j c y hc hy => .im _ _ (hargs.2 j c y hc hy)⟩
  refine body_sound (E0 := initE args) (S := spI P f fn.ntmps bad) (C := C) (ρ0 := fun _ => none) (Im0 := Im) (M0 := ⟨fun _ => False, fun _ => False⟩) H rfl hf hb rfl h1 h2 ?_ h fun E σ tm w' ρ I M us ys hk hrest hr => ?_
  · refine ⟨⟨fun id k hk => (by cases hk), fun id k b hk => (by cases hk), fun id k b hk => (by cases hk), fun i j b hi => (by cases hi), fun i b hi => (by cases hi), fun i b hi => (by cases hi), hlow⟩, env_init hreps, ?_, Ext.refl _ _, fun i b hi => (by cases hi), fun b hb => .inl hb, fun p => ?_, ?_, fun b hb => hb.elim, fun b hb => hb.elim, fun l r hr => (by cases hr), .nil, fun d hd => (by cases hd), fun b hb => ?_, fun id b hb => (by cases hb), fun b hb => hb⟩
    · simp only [Array.size_append, List.size_toArray, Array.size_replicate]
      have := hargs.1
      show vs.length + (fn.ntmps - vs.length) = fn.ntmps
      omega
    · show AV.namesB p (initE args fn.ntmps) = false
      rw [initE_out args _ hlen]; rfl
    · show itG (initE args fn.ntmps) _ _
      rw [initE_out args _ hlen]
      intro r ks last e; cases e
    · rcases hb with ⟨r, hr⟩ | hd
      · cases hr
      · cases hd
  · obtain ⟨r', rfl, hrr⟩ := ret_sound hrest (fun _ h => h) hlow hr hk
    exact ⟨_, rfl, hrest.ext, hrr⟩
end Go.Vai
namespace Go.Vai
open Go.RowKit
@[go_sem] theorem frz_clo (L p : Nat → Bool) (σ : Store) (g : Nat) (cs : List AV) : frz L p σ (.clo g cs) = if AV.namesB (notI L) (.clo g cs) = false then .clo g cs else res (killS p (killS L σ)) (((AV.clo g cs).kill L).kill p) := rfl
@[go_sem] theorem oneCell_nilFunc : Value.nilFunc.oneCell' = true := rfl
end Go.Vai
namespace Go.Vai
open Go.RowKit
theorem semD_many {S : Sp} {K : Env → Store → Prop} {E : Env} {σ : Store} {dst : Option Nat} {ty : TypeId} {op : Op} (V : AV → Prop) (hfit : (dst.all (decide <| · < S.N) && Op.low S.N op) = true) (hdf : ∀ c, op ≠ .defer c)
    (h : ∀ (C : Fx) (w : World) (ρ : Nat → Option Nat) (Im : Nat → Prop) (M : Str) (a : Act), Holds S C → Wit C E σ a w ρ Im M → (∀ u ∈ op.operands, Rep w ρ Im (ev E u) (a.eval u)) →
      ∃ r y, V r ∧ (∀ pos after guard, (execOp a.eval ⟨dst, op, ty, pos, after, guard⟩).run S.P w = .ok (.value y) w) ∧ Rep w ρ Im r y) (hK : ∀ r, V r → K (updO E dst r) σ) : semD S dst op ty K E σ := by
  intro pos after guard C H n a w Kc Q ⟨ρ, Im, M, hw⟩ hKc
  simp only [Bool.and_eq_true] at hfit
  obtain ⟨hdst, hlow⟩ := hfit
  have hdst' : ∀ d, dst = some d → d < C.N := fun d hd => by subst hd; rw [← H.N]; simpa using hdst
  have rep : ∀ u ∈ op.operands, Rep w ρ Im (ev E u) (a.eval u) := fun u hu => ev_rep hw.env (by rw [hw.size, ← H.N]; exact low_of hlow hu)
  obtain ⟨r, y, hv, hrun, hr⟩ := h C w ρ Im M a H hw rep
  exact wpIn_value hdf (hrun pos after guard) (hKc _ _ _ _ (hK r hv) ⟨ρ, Im, M, hw.put H.G hdst' hr⟩)
theorem slNil_mk {S : Sp} {K : Env → Store → Prop} {E : Env} {σ : Store} {dst : Option Nat} {ty : TypeId} {t te : TypeId} {op : BinOp} {x : Operand} {t' : TypeId} {sz : Nat} {es : List AV} (hx : ev E x = .sl sz es) (ht : S.P.underlying t = some (.slice te)) (hop : op = .eql ∨ op = .neq)
    (hK : ∀ b, K (updO E dst (.v (.bool b))) σ) (hfit : (dst.all (decide <| · < S.N) && Op.low S.N (.binOp op t x (.const (.slice none 0 0)) t')) = true := by kernel_rfl) : semD S dst (.binOp op t x (.const (.slice none 0 0)) t') ty K E σ := by
  refine semD_many (fun r => ∃ b, r = .v (.bool b)) hfit (fun _ e => by cases e) (fun C w ρ Im M a H hw rep => ?_) (fun r ⟨b, hb⟩ => hb ▸ hK b)
  have hr := rep x (by simp [Op.operands])
  rw [hx] at hr
  have hax : ∃ (ad : Option Addr) (n c : Nat), a.eval x = .slice ad n c := by
    generalize a.eval x = y at hr
    cases hr with
    | im _ _ h => cases h <;> exact ⟨_, _, _, rfl⟩
  obtain ⟨ad, n, c, hax⟩ := hax
  have he : ∀ d, (Op.equalIn (d + 1) t (.slice ad n c) (.slice none 0 0)).run S.P w = .ok ad.isNone w := fun d => by cases ad <;> simp [Op.equalIn, run_underlying ht]
  have hg : ∀ w, (eqGuard op t x (.const (.slice none 0 0)) (.slice ad n c) (.slice none 0 0)).run S.P w = .ok () w := fun w => by unfold eqGuard; cases op <;> rfl
  have hay : a.eval (.const (.slice none 0 0)) = .slice none 0 0 := rfl
  rcases hop with rfl | rfl
  · exact ⟨.v (.bool ad.isNone), .bool ad.isNone, ⟨_, rfl⟩, fun _ _ _ => by simp only [execOp, hax, hay, Sem.run_bind, hg, Result.andThen_ok, binOp, Op.equal, Op.maxDepth, he 9999, Sem.run_pure], .im _ _ (.v _)⟩
  · exact ⟨.v (.bool !ad.isNone), .bool !ad.isNone, ⟨_, rfl⟩, fun _ _ _ => by simp only [execOp, hax, hay, Sem.run_bind, hg, Result.andThen_ok, binOp, Op.equal, Op.maxDepth, he 9999, Sem.run_pure], .im _ _ (.v _)⟩
def stepsV (S : Sp) (Q : Env → Store → Prop) : List Oper → Env → Store → Prop
  | [] => Q
  | o :: l => fun E σ => o.guard = none ∧ semD S o.dst o.op o.type (stepsV S Q l) E σ
theorem region_V {S : Sp} {id : Nat} {ops : Array Oper} {Q : Exit → Env → Store → Prop} {E : Env} {σ : Store} (h : stepsV S (Q .normal) ops.toList E σ) : semC S (.region id ops false) Q E σ := by
  intro C H n R hR a w hs
  refine wpIn_region ?_
  have key : ∀ (l : List Oper) (i : Nat) (E : Env) (σ : Store) (a : Act) (w : World), (∀ j, l[j]? = ops[i + j]?) → stepsV S (Q .normal) l E σ → St C E σ a w → wpOpsIn (FW C.rdl) n S.P ops R (List.range' i l.length) a w := by
    intro l
    induction l with
    | nil => exact fun i E σ a w _ hv hs => hR .normal E σ a w hv hs
    | cons o l ih =>
      intro i E σ a w hl ⟨hg, hv⟩ hs
      have ho : ops[i]? = some o := by simpa using (hl 0).symm
      rw [List.length_cons, List.range'_succ, wpOpsIn_cons]
      refine wpTurn_in ho ?_
      unfold wpTurn
      rw [if_pos (by simp [Region.wanted, hg])]
      exact hv _ _ _ C H n a w _ _ hs fun E' σ' a' w' hk hs' => ih (i + 1) E' σ' a' w' (fun j => by have := hl (j + 1); simpa [Nat.add_assoc, Nat.add_comm 1 j] using this) hk hs'
  have := key ops.toList 0 E σ a w (by simp) h hs
  rw [Array.length_toList, ← List.range_eq_range'] at this
  exact this
end Go.Vai
namespace Go.Vai
open Go.RowKit
theorem lentI_mk {S : Sp} {E : Env} {σ : Store} {K : Env → Store → Prop} {dst : Option Nat} {f : Operand} {args : Array Operand} {ats : Array TypeId} {ty : TypeId} {g : FuncId} {xs caps : List AV} (X t : Nat) {es R : List Int} {e : TypeId} {k : IntKind}
    (hL : LOK S.P g (inI [X]) (xs ++ caps) (stO [(X, ⟨e, 1, es.map fun x => .v (.int k x)⟩)]) (.tup []) (stO [(X, ⟨e, 1, R.map fun x => .v (.int k x)⟩)])) (hfv : ev E f = .clo g caps) (has : args.toList.map (ev E) = xs) (hat : σ X = some ⟨e, 1, es.map fun x => .v (.int k x)⟩)
    (hE : E t = .own X 1 0 R.length) (hn : 0 < R.length) (hq : AV.namesL (notI (inI [X])) (xs ++ caps) = false)
    (hK : K (upd (frE (inI [X]) (addS (killS (own (S.b + dst.getD 99999)) (fdS (inI [X]) (movI (inI [X]) (inI [X])) σ (stO [(X, ⟨e, 1, R.map fun x => .v (.int k x)⟩)]))) (imp (16 * (S.b + dst.getD 99999)) (.tup [])).2) (updO (killE (own (S.b + dst.getD 99999)) (fdE (inI [X]) (movI (inI [X]) (inI [X])) E)) dst (imp (16 * (S.b + dst.getD 99999)) (.tup [])).1)) t (.sl 1 (R.map fun x => .v (.int k x))))
      (frS (inI [X]) (addS (killS (own (S.b + dst.getD 99999)) (fdS (inI [X]) (movI (inI [X]) (inI [X])) σ (stO [(X, ⟨e, 1, R.map fun x => .v (.int k x)⟩)]))) (imp (16 * (S.b + dst.getD 99999)) (.tup [])).2)))
    (hhd : headOK caps = true := by rfl) (hX : (!S.pin X && !S.old X && !Nat.beq (X / 16) (S.b + dst.getD 99999) && Nat.blt t S.N && dst.all fun d => !Nat.beq d t) = true := by kernel_rfl)
    (hfit : (dst.all (decide <| · < S.N) && Op.low S.N (.call { callee := .value f, args, argTypes := ats }) && decide (dst.getD 99999 < 100000)) = true := by kernel_rfl) :
    semD S dst (.call { callee := .value f, args, argTypes := ats }) ty K E σ := by
  simp only [Bool.and_eq_true, decide_eq_true_eq, Bool.not_eq_true'] at hfit hX
  obtain ⟨⟨⟨⟨hXp, hXo⟩, hXd⟩, htN⟩, htd⟩ := hX
  have htN : t < S.N := Nat.le_of_ble_eq_true htN
  have hXd : X / 16 ≠ S.b + dst.getD 99999 := fun e => by rw [e, Nat.beq_refl] at hXd; cases hXd
  have hin : ∀ id, inI [X] id = true ↔ id = X := fun id => by simp [inI]
  have hnl : AV.namesL (notI (inI [X])) (es.map fun x => (.v (.int k x) : AV)) = false := namesL_map _ _ _ fun _ => rfl
  have hnl2 : AV.namesL (notI (inI [X])) (R.map fun x => (.v (.int k x) : AV)) = false := namesL_map _ _ _ fun _ => rfl
  have honly : only (inI [X]) σ = stO [(X, ⟨e, 1, es.map fun x => .v (.int k x)⟩)] := only_stO (l := [(X, ⟨e, 1, es.map fun x => .v (.int k x)⟩)]) ⟨hat, trivial⟩
  subst has
  rw [← honly] at hL
  intro pos after guard C H n a w Kc Q ⟨ρ, Im, M, h⟩ hKc
  obtain ⟨⟨hdst, hlow⟩, hdd⟩ := hfit
  have hdst : ∀ d, dst = some d → d < S.N := fun d hd => by subst hd; simpa using hdst
  have rep : ∀ x, x ∈ (Op.call { callee := .value f, args, argTypes := ats }).operands → Rep w ρ Im (ev E x) (a.eval x) := fun x hx => ev_rep h.env (by rw [h.size, ← H.N]; exact low_of hlow hx)
  refine ⟨fun _ _ => trivial, ?_⟩
  rw [Oper.semAt_eq _ _ _ (fun c e => by cases e)]
  have hfr := rep f (by simp [Op.operands, Call.operands])
  rw [hfv] at hfr
  obtain ⟨cys, hfy, hcl', hcr⟩ := hfr.clo_plain hhd
  have hargs : ∀ x ∈ args.toList, Rep w ρ Im (ev E x) (a.eval x) := fun x hx => rep x (by simp [Op.operands, Call.operands]; exact Or.inr (Array.mem_toList_iff.1 hx))
  have hall : Reps w ρ Im (args.toList.map (ev E) ++ caps) (args.toList.map a.eval ++ cys) := by
    refine ⟨by simp [hcl'], fun j c y hc hy => ?_⟩
    by_cases hj : j < args.toList.length
    · rw [List.getElem?_append_left (by simpa using hj), List.getElem?_map] at hc hy
      rw [List.getElem?_eq_getElem hj] at hc hy
      simp at hc hy; subst hc; subst hy
      exact hargs _ (by simp)
    · rw [List.getElem?_append_right (by simp at hj ⊢; omega)] at hc hy
      simp only [List.length_map] at hc hy
      exact hcr _ c y hc hy
  have hallq : Reps w (killR (notI (inI [X])) ρ) Im (args.toList.map (ev E) ++ caps) (args.toList.map a.eval ++ cys) := ⟨hall.1, fun j c y hc hy => (hall.2 j c y hc hy).killR fun id hid => by
    cases hp : notI (inI [X]) id with
    | false => rfl
    | true =>
      have := (AV.namesL_iff (notI (inI [X])) _).2 ⟨c, List.mem_of_getElem? hc, AV.namesB_of _ hid hp⟩
      rw [hq] at this; cases this⟩
  obtain ⟨henter, hfn⟩ := hL
  have hrun : (execOp a.eval { dst, op := .call { callee := .value f, args, argTypes := ats }, type := ty, pos, after, guard }).run S.P w = .ok (.enter g (args.toList.map a.eval ++ cys).toArray) w := by
    simp only [execOp, resolve, hfy, Deferred.ofValue, Sem.run_bind, Sem.run_pure, Result.andThen_ok, invoke]
    have e1 : (#[] ++ args.map a.eval ++ cys.toArray : Array Value) = (args.toList.map a.eval ++ cys).toArray := by apply Array.toList_inj.1; simp
    rw [e1]; exact henter _ w
  rw [hrun]
  refine ⟨fun h => by simp [FW] at h, calls_FW ?_⟩
  refine (hfn w Im (killR (notI (inI [X])) ρ) _ (h.inv.only fun id q hid hqq => by
    obtain rfl := (hin id).1 hqq
    rw [hat] at hid; cases hid; exact hnl) (h.gok H) hallq).mono fun ee w' ⟨y, ρ', Im', he, hx, hi, hI1, hI2, hρ, hpin, hrr⟩ => ?_
  subst he
  obtain ⟨ρ3, Im3, hw, hρ3⟩ := h.lent (pin := inI [X]) H hx hi hI1 hI2 hρ hpin (fun id q hid => by
    have := stO_mem hid
    simp only [List.mem_singleton, Prod.mk.injEq] at this
    obtain ⟨rfl, rfl⟩ := this
    exact ⟨(hin _).2 rfl, hnl2⟩) (fun id _ hq' => hq') hdd hrr (Nat.le_of_ble_eq_true rfl) (dst := dst) (by rw [← H.N]; exact hdst)
  -- the slice's value
  have htC : t < C.N := by rw [← H.N]; exact htN
  obtain ⟨y0, hy0⟩ : ∃ y0, a.tmps[t]? = some y0 := ⟨_, Array.getElem?_eq_getElem (by rw [h.size]; exact htC)⟩
  have hr0 := h.env t y0 hy0
  rw [hE] at hr0
  have hy : ∃ b cap, y0 = .slice (some ⟨b, 0, none⟩) R.length cap ∧ ρ X = some b ∧ R.length ≤ cap := by
    generalize R.length = m at hr0 hn
    generalize hav : AV.own X 1 0 m = av at hr0
    cases hr0 with
    | im _ _ hh => subst hav; cases hh
    | ownNil => cases hav; omega
    | own id sz n b cap cur e' hr hn' => cases hav; exact ⟨b, cap, rfl, hr, hn'⟩
    | ownAt id sz i n b cap a' hi' => cases hav; omega
    | _ => cases hav
  obtain ⟨b, cap, rfl, hb, hcap⟩ := hy
  have hqX : inI [X] X = true := (hin X).2 rfl
  have hb' : ρ' X = some b := by rw [hpin X hqX, killR_of ρ (by simp [notI, hqX])]; exact hb
  have hb3 : ρ3 X = some b := by rw [hρ3 X hXd, if_pos hqX]; exact hb'
  have hf := hw.freeze H (inI [X]) (fun id hid => by
    cases hh : inI [X] id with
    | false => rfl
    | true => obtain rfl := (hin id).1 hh; rw [hid] at hXp; cases hXp) (fun id hid => by
    cases hh : inI [X] id with
    | false => rfl
    | true => obtain rfl := (hin id).1 hh; rw [hid] at hXo; cases hXo)
  have hN : ∀ (E : Env) v, upd E t v C.N = E C.N := fun E v => by unfold upd; rw [if_neg (by omega)]
  refine hKc _ _ _ _ hK ⟨_, _, M, ⟨hf.inv, fun t' y' hy' => ?_, hf.size, hf.ext, hf.rng, hf.im, by rw [hN]; exact hf.gh, by rw [hN]; exact hf.g, hf.js, hf.ms, hf.rd, hf.nodup, hf.df, hf.bk, hf.pin, hf.j0⟩⟩
  unfold upd
  split
  · rename_i ht'
    subst ht'
    have hyy : y' = .slice (some ⟨b, 0, none⟩) R.length cap := by
      cases dst with
      | none => simp [Act.put] at hy'; rw [hy0] at hy'; exact (Option.some.inj hy').symm
      | some d =>
        have hdt : d ≠ t' := fun e => by subst e; simp at htd
        simp only [Act.put] at hy'
        rw [Array.getElem?_setIfInBounds_ne hdt] at hy'
        rw [hy0] at hy'; exact (Option.some.inj hy').symm
    subst hyy
    obtain ⟨cur, ⟨fr, hc1, _⟩, hc2, hc3, hc4⟩ := hi.blk X ⟨e, 1, R.map fun x => .v (.int k x)⟩ b (by simp [stO]) hb' Nat.one_ne_zero
    have hlen : R.length = (R.map fun x => (.v (.int k x) : AV)).length := by simp
    have hcell : ∀ i, i < R.length → cur[i]? = some (.int k (R[i]?.getD 0)) := fun i hi' => by
      obtain ⟨x, g1, g2, g3⟩ := hc4 i (.v (.int k R[i])) 0 (.v (.int k R[i])) (by simp [hi']) rfl
      have := g3.v_inv
      subst this
      simpa [hi'] using g1
    rw [hlen]
    refine .im _ _ (.sl 1 _ b 0 cap (fun i _ => .int k (R[i]?.getD 0)) ?_ (by simpa using hcap) (fun e' he' => ?_) (fun i j hi' hj => ?_) (fun i e' j c he' hc' => ?_))
    · exact .inr ⟨X, by rw [killR_of ρ3 (by simp [notI, hqX])]; exact hb3⟩
    · obtain ⟨x, _, rfl⟩ := List.mem_map.1 he'; rfl
    · obtain rfl : j = 0 := by omega
      have hi' : i < R.length := by simpa using hi'
      exact ⟨by simp [World.cell?, hc1, hcell i hi'], rfl⟩
    · rw [List.getElem?_map] at he'
      cases hh : R[i]? with
      | none => simp [hh] at he'
      | some x =>
        simp [hh] at he'; subst he'
        cases j with
        | zero => simp at hc'; subst hc'; simp; exact .v _
        | succ j => simp at hc'
  · exact hf.env t' y' hy'
end Go.Vai
namespace Go.Vai
open Go.RowKit
variable {S : Sp} {dst : Option Nat} {ty : TypeId} {K : Env → Store → Prop} {E : Env} {σ : Store}
section
variable {p : Nat → Bool} {nm q k : Nat → Bool}
@[go_sem] theorem kill_cut (s : Nat) (es : List AV) : AV.kill p (.cut s es) = .cut s es := rfl
@[go_sem] theorem fade_cut (s : Nat) (es : List AV) : fade nm (.cut s es) = .cut s es := rfl
@[go_sem] theorem res_cut (s : Nat) (es : List AV) : res σ (.cut s es) = .cut s es := rfl
@[go_sem] theorem frz_cut (L p : Nat → Bool) (σ : Store) (s : Nat) (es : List AV) : frz L p σ (.cut s es) = .cut s es := rfl
@[go_sem] theorem frzE_cut (L p : Nat → Bool) (σ : Store) (s : Nat) (es : List AV) : frzE L p σ (.cut s es) = .cut s es := rfl
end
end Go.Vai
namespace Go.Vai
open Go.RowKit
end Go.Vai
namespace Go.Vai
open Go.RowKit
end Go.Vai
namespace Go.Vai
open Go.RowKit
abbrev entS (p : ByteArray × AV) : AV := .tup [.v (.string p.1), p.2]
def idxS (n : ByteArray) : List (ByteArray × AV) → Option Nat
  | [] => none
  | p :: r => if p.1 = n then some 0 else (idxS n r).map (· + 1)
def mgetS (n : ByteArray) : List (ByteArray × AV) → Option AV
  | [] => none
  | p :: r => if p.1 = n then some p.2 else mgetS n r
def mputS (l : List (ByteArray × AV)) (n : ByteArray) (v : AV) : List (ByteArray × AV) := match idxS n l with
  | none => l ++ [(n, v)]
  | some j => l.set j (n, v)
def EntsS (ents : List MapEntry) (l : List (ByteArray × AV)) : Prop := ents.length = l.length ∧ ∀ (i : Nat) (m : MapEntry) (p : ByteArray × AV), ents[i]? = some m → l[i]? = some p → m.key = .string p.1
theorem find_strs (n : ByteArray) : ∀ (ents : List MapEntry) (l : List (ByteArray × AV)) (i : Nat), EntsS ents l →
    (idxS n l = none ∧ mgetS n l = none ∧ Instr.findNow .string (.string n) ents i = some none) ∨
    ∃ j p e, idxS n l = some j ∧ l[j]? = some p ∧ p.1 = n ∧ ents[j]? = some e ∧ mgetS n l = some p.2 ∧ Instr.findNow .string (.string n) ents i = some (some (i + j, e.val))
  | [], [], _, _ => .inl ⟨rfl, rfl, rfl⟩
  | [], _ :: _, _, h => by have := h.1; simp at this
  | _ :: _, [], _, h => by have := h.1; simp at this
  | e :: es, p :: l, i, h => by
    have hk := h.2 0 e p rfl rfl
    have ht : EntsS es l := ⟨by simpa using h.1, fun j m q hm hq => h.2 (j + 1) m q (by simpa using hm) (by simpa using hq)⟩
    by_cases hp : p.1 = n
    · refine .inr ⟨0, p, e, by rw [idxS, if_pos hp], rfl, hp, rfl, by rw [mgetS, if_pos hp], ?_⟩
      simp [Instr.findNow, Instr.sameNow, hk, hp, (MapKept.bytes_beq n n).2 rfl]
    · have hf : Instr.findNow .string (.string n) (e :: es) i = Instr.findNow .string (.string n) es (i + 1) := by
        have : (n == p.1) = false := Bool.eq_false_iff.2 fun e => hp ((MapKept.bytes_beq n p.1).1 e).symm
        simp [Instr.findNow, Instr.sameNow, hk, this]
      rcases find_strs n es l (i + 1) ht with ⟨h1, h2, h3⟩ | ⟨j, q, e', h1, h2, h3, h4, h5, h6⟩
      · exact .inl ⟨by rw [idxS, if_neg hp, h1]; rfl, by rw [mgetS, if_neg hp, h2], by rw [hf, h3]⟩
      · exact .inr ⟨j + 1, q, e', by rw [idxS, if_neg hp, h1]; rfl, by simpa using h2, h3, by simpa using h4, by rw [mgetS, if_neg hp, h5], by rw [hf, h6]; congr 3; omega⟩
section
variable {w : World} {ρ : Nat → Option Nat} {Im : Nat → Prop}
theorem ents_ofS {l : List (ByteArray × AV)} {b : Nat} (h : MapOK w ρ Im (l.map entS) b) : ∃ ents clk, w.heap[b]? = some (.map ents clk) ∧ EntsS ents.toList l ∧
    (∀ (i : Nat) (m : MapEntry) (p : ByteArray × AV), ents.toList[i]? = some m → l[i]? = some p → Rep w ρ Im p.2 m.val) ∧ Bn ents clk := by
  obtain ⟨ents, clk, hb, hl, hc⟩ := h
  have key : ∀ (i : Nat) (m : MapEntry) (p : ByteArray × AV), ents.toList[i]? = some m → l[i]? = some p → m.key = .string p.1 ∧ Rep w ρ Im p.2 m.val := fun i m p hm hp => by
    obtain ⟨v, hv, hr⟩ := hc i m (by rw [← Array.getElem?_toList]; exact hm)
    rw [List.getElem?_map, hp] at hv
    simp only [Option.map_some, Option.some.injEq, AV.tup.injEq, List.cons.injEq, AV.v.injEq, and_true] at hv
    obtain ⟨h1, h2⟩ := hv
    exact ⟨h1.symm, h2 ▸ hr⟩
  refine ⟨ents, clk, hb, ⟨by simpa using hl.1.symm, fun i m p hm hp => (key i m p hm hp).1⟩, fun i m p hm hp => (key i m p hm hp).2, hl.2⟩
end
theorem mapUpdateS_mk {S : Sp} {t ty kt et : TypeId} {x y v : Operand} {K : Env → Store → Prop} {E : Env} {σ : Store} {id e : Nat} {l : List (ByteArray × AV)} {n : ByteArray}
    (hx : ev E x = .mref id) (hy : ev E y = .v (.string n)) (hs : σ id = some ⟨e, 0, l.map entS⟩) (ht : S.P.underlying t = some (.map kt et)) (hk : S.P.underlying kt = some .string)
    (h : K E (updS σ id ⟨e, 0, (mputS l n (ev E v)).map entS⟩))
    (hlow : Op.low S.N (.mapUpdate t x y v) = true := by kernel_rfl) : semD S none (.mapUpdate t x y v) ty K E σ := by
  intro pos after guard C H nn a w Kc Q ⟨ρ, Im, M, hw⟩ hKc
  have rep : ∀ u, u ∈ (Op.mapUpdate t x y v).operands → Rep w ρ Im (ev E u) (a.eval u) := fun u hu => ev_rep hw.env (by rw [hw.size, ← H.N]; exact low_of hlow hu)
  have hrx := rep x (by simp [Op.operands])
  have hry := rep y (by simp [Op.operands])
  have hrv := rep v (by simp [Op.operands])
  rw [hx] at hrx
  rw [hy] at hry
  obtain ⟨b, hxb, hρ⟩ := hrx.mref_inv
  have hyv := hry.v_inv
  obtain ⟨ents, clk, hb, he, hv, hbn⟩ := ents_ofS (hw.inv.map id _ b hs hρ rfl)
  have hck := MapKept.run_checkKey (P := S.P) (w := w) hk (k := .string n) trivial false 9999
  have hlen := he.1
  rw [Array.length_toList] at hlen
  rcases find_strs n ents.toList l 0 he with ⟨h1, h2, h3⟩ | ⟨j, p, m, h1, h2, h0, h4, h5, h6⟩
  · refine wpIn_skip' (fun _ e => by cases e) (w' := { w with heap := w.heap.setIfInBounds b (.map (ents.push { key := .string n, val := a.eval v, born := clk }) (clk + 1)) }) ?_ (hKc _ _ _ _ h ⟨ρ, Im, M, ?_⟩)
    · simp [execOp, hxb, hyv, Instr.mapUpdate, Sem.run_bind, run_underlying ht w, Result.andThen_ok, MapKept.run_getObj_map hb, hck, MapKept.run_findKey hk h3, MapKept.run_setObj_map _ hb, Result.andThen]
    · refine (hw.turnMap H.G hs hρ hb rfl ⟨?_, bn_push hbn _ _⟩ fun i m hm => ?_)
      · simp only [mputS, h1]; simp; omega
      · simp only [mputS, h1]
        rw [Array.getElem?_push] at hm
        split at hm
        · rename_i hi
          cases hm
          refine ⟨ev E v, ?_, hrv⟩
          rw [List.getElem?_map, hi, hlen, List.getElem?_append_right (Nat.le_refl _), Nat.sub_self]; rfl
        · have hil : i < ents.size := (Array.getElem?_eq_some_iff.1 hm).1
          cases hp : l[i]? with
          | none => rw [List.getElem?_eq_none_iff] at hp; omega
          | some p =>
            have hm' : ents.toList[i]? = some m := by rw [Array.getElem?_toList]; exact hm
            refine ⟨p.2, ?_, hv i m p hm' hp⟩
            rw [List.getElem?_map, List.getElem?_append_left (by omega), hp, he.2 i m p hm' hp]; rfl
  · rw [Nat.zero_add] at h6
    have hkm : m.key = .string n := by rw [he.2 j m p h4 h2, h0]
    have hje : ents[j]? = some m := by rw [← Array.getElem?_toList]; exact h4
    refine wpIn_skip' (fun _ e => by cases e) (w' := { w with heap := w.heap.setIfInBounds b (.map (ents.modify j fun e => { e with key := .string n, val := a.eval v }) clk) }) ?_ (hKc _ _ _ _ h ⟨ρ, Im, M, ?_⟩)
    · have hst := MapKept.run_keyThatStays (P := S.P) (w := w) (d := .string) (k := .string n) trivial
      simp [execOp, hxb, hyv, Instr.mapUpdate, Sem.run_bind, run_underlying ht w, Result.andThen_ok, MapKept.run_getObj_map hb, hck, MapKept.run_findKey hk h6, hje, hkm, hst, MapKept.run_setObj_map _ hb, Result.andThen]
    · refine (hw.turnMap H.G hs hρ hb rfl ⟨?_, bn_modify hbn j _ _⟩ fun i q hm => ?_)
      · simp only [mputS, h1]; simp; omega
      · simp only [mputS, h1]
        rw [Array.getElem?_modify] at hm
        have hjl : j < l.length := (List.getElem?_eq_some_iff.1 h2).1
        split at hm
        · rename_i e
          subst e
          rw [hje] at hm
          cases hm
          exact ⟨ev E v, by rw [List.getElem?_map, List.getElem?_set_self hjl]; rfl, hrv⟩
        · rename_i hne
          have hil : i < ents.size := (Array.getElem?_eq_some_iff.1 hm).1
          cases hp : l[i]? with
          | none => rw [List.getElem?_eq_none_iff] at hp; omega
          | some p =>
            have hm' : ents.toList[i]? = some q := by rw [Array.getElem?_toList]; exact hm
            refine ⟨p.2, ?_, hv i q p hm' hp⟩
            rw [List.getElem?_map, List.getElem?_set_ne hne, hp, he.2 i q p hm' hp]; rfl
theorem IRep.mp_inv {w : World} {Im : Nat → Prop} {es : List AV} {y : Value} (h : IRep w Im (.mp es) y) : (es = [] ∧ y = .map none) ∨
    ∃ (b : Nat) (ents : Array MapEntry) (clk : Nat) (f : Nat → AV), y = .map (some b) ∧ w.heap[b]? = some (.map ents clk) ∧ es.length = ents.size ∧ (∀ (i : Nat) (m : MapEntry), ents[i]? = some m → es[i]? = some (.tup [.v m.key, f i])) ∧ ∀ (i : Nat) (m : MapEntry), ents[i]? = some m → IRep w Im (f i) m.val := by
  cases h with
  | mpnil => exact .inl ⟨rfl, rfl⟩
  | mp _ b ents clk f hIm hb hl hes h => exact .inr ⟨b, ents, clk, f, rfl, hb, hl.1, hes, h⟩
theorem lookupF_mk {S : Sp} {dst : Option Nat} {t ty kt et : TypeId} {x y : Operand} {K : Env → Store → Prop} {E : Env} {σ : Store} {l : List (ByteArray × AV)} {n : ByteArray} {z : Value}
    (hx : ev E x = .mp (l.map entS)) (hy : ev E y = .v (.string n)) (ht : S.P.underlying t = some (.map kt et)) (hk : S.P.underlying kt = some .string) (hz : tz S.P et = some z)
    (hsome : ∀ v, mgetS n l = some v → K (updO E dst (.tup [v, B true])) σ) (hnone : mgetS n l = none → K (updO E dst (.tup [ofC z, B false])) σ)
    (hfit : (dst.all (decide <| · < S.N) && Op.low S.N (.lookup t x y true)) = true := by kernel_rfl) : semD S dst (.lookup t x y true) ty K E σ := by
  intro pos after guard C H nn a w Kc Q ⟨ρ, Im, M, hw⟩ hKc
  simp only [Bool.and_eq_true] at hfit
  obtain ⟨hdst, hlow⟩ := hfit
  have hdst' : ∀ d, dst = some d → d < C.N := fun d hd => by subst hd; rw [← H.N]; simpa using hdst
  have rep : ∀ u, u ∈ (Op.lookup t x y true).operands → Rep w ρ Im (ev E u) (a.eval u) := fun u hu => ev_rep hw.env (by rw [hw.size, ← H.N]; exact low_of hlow hu)
  have hrx := rep x (by simp [Op.operands])
  have hry := rep y (by simp [Op.operands])
  rw [hx] at hrx
  rw [hy] at hry
  have hyv := hry.v_inv
  have hput : ∀ {v : AV} {yv : Value}, Rep w ρ Im v yv → ∀ b : Bool, Rep w ρ Im (.tup [v, B b]) (.tuple #[yv, .bool b]) := fun {v yv} hv b => .tup _ [yv, .bool b] rfl fun j c q hc hq => by
    match j with
    | 0 => simp at hc hq; subst hc; subst hq; exact hv
    | 1 => simp at hc hq; subst hc; subst hq; exact .im _ _ (.v _)
  cases hrx with
  | im _ _ hi =>
    rcases hi.mp_inv with ⟨hes, hi'⟩ | ⟨b, ents, clk, f, hi', hb, hl, hes', h⟩
    · have hl : l = [] := by simpa using hes
      subst hl
      have hck := MapKept.run_checkKey (P := S.P) (w := w) hk (k := .string n) trivial true 9999
      have hfk := MapKept.run_findKey (P := S.P) (w := w) hk (k := .string n) (l := []) (a := none) rfl
      have run : (execOp a.eval ⟨dst, .lookup t x y true, ty, pos, after, guard⟩).run S.P w = .ok (.value (.tuple #[z, .bool false])) w := by
        simp only [execOp, hi', hyv, Instr.lookup, Sem.run_bind, run_underlying ht w, Result.andThen_ok, Sem.run_pure, Array.isEmpty_empty, hck, hfk]
        simp [run_zero hz w, Sem.run_bind, Result.andThen_ok]
      exact wpIn_value (fun _ e => by cases e) run (hKc _ _ _ _ (hnone rfl) ⟨ρ, Im, M, hw.put H.G hdst' (hput (ofC_rep z) false)⟩)
    · have he : EntsS ents.toList l := ⟨by simpa using hl.symm, fun i m p hm hp => by
        have h1 := hes' i m (by rw [← Array.getElem?_toList]; exact hm)
        rw [List.getElem?_map, hp] at h1
        simp only [Option.map_some, Option.some.injEq, AV.tup.injEq, List.cons.injEq, AV.v.injEq, and_true] at h1
        exact h1.1.symm⟩
      have hv : ∀ (i : Nat) (m : MapEntry) (p : ByteArray × AV), ents.toList[i]? = some m → l[i]? = some p → Rep w ρ Im p.2 m.val := fun i m p hm hp => by
        have hm' : ents[i]? = some m := by rw [← Array.getElem?_toList]; exact hm
        have h1 := hes' i m hm'
        rw [List.getElem?_map, hp] at h1
        simp only [Option.map_some, Option.some.injEq, AV.tup.injEq, List.cons.injEq, AV.v.injEq, and_true] at h1
        rw [h1.2]; exact .im _ _ (h i m hm')
      have hck := MapKept.run_checkKey (P := S.P) (w := w) hk (k := .string n) trivial ents.isEmpty 9999
      have run : ∀ r, Instr.findNow .string (.string n) ents.toList 0 = some r → (execOp a.eval ⟨dst, .lookup t x y true, ty, pos, after, guard⟩).run S.P w = .ok (.value (.tuple (match r with | some (_, v) => #[v, .bool true] | none => #[z, .bool false]))) w := fun r hr => by
        simp only [execOp, hi', hyv, Instr.lookup, Sem.run_bind, run_underlying ht w, Result.andThen_ok, MapKept.run_getObj_map hb, Sem.run_pure, hck, MapKept.run_findKey hk hr]
        cases r with
        | none => simp [run_zero hz w, Sem.run_bind, Result.andThen_ok]
        | some q => simp [Sem.run_bind, Result.andThen_ok]
      rcases find_strs n ents.toList l 0 he with ⟨_, h2, h3⟩ | ⟨j, p, m, _, h2, _, h4, h5, h6⟩
      · exact wpIn_value (fun _ e => by cases e) (run _ h3) (hKc _ _ _ _ (hnone h2) ⟨ρ, Im, M, hw.put H.G hdst' (hput (ofC_rep z) false)⟩)
      · exact wpIn_value (fun _ e => by cases e) (run _ h6) (hKc _ _ _ _ (hsome _ h5) ⟨ρ, Im, M, hw.put H.G hdst' (hput (hv j m p h4 h2) true)⟩)
end Go.Vai
namespace Go.Vai
open Go.RowKit
end Go.Vai
namespace Go.Vai
open Go.RowKit
end Go.Vai
namespace Go.Vai
open Go.RowKit
end Go.Vai
set_option maxRecDepth 100000
namespace Go.Proofs.YtndhglacgiidbaaGreatDoor
open Go.Vai Go Go.Proofs
open Nat (reduceEqDiff reduceMul reduceAdd reduceDiv reduceLeDiff)
open Int (reduceToNat reduceNe reduceEq reduceLT reduceLE)
abbrev TyF (t : Nat) (x0 : Bool) (x1 : Nat) (x2 : Option TypeId) (x3 : Option (Nat × TypeId)) (x4 : Option (List (Nat × TypeId))) (x5 : Option IntKind) (x6 : Bool) (x7 : Option Bool) (x8 : Nat) (x9 : Option Nat) (x10 : Option (List Nat)) (x11 : Bool) : Prop := tund Tryz.prog t = x0 ∧ tsz Tryz.prog t = x1 ∧ tel Tryz.prog t = x2 ∧ tarr Tryz.prog t = x3 ∧ tfld Tryz.prog t = x4 ∧ tint Tryz.prog t = x5 ∧ tstr Tryz.prog t = x6 ∧ tagg Tryz.prog t = x7 ∧ tby Tryz.prog t = x8 ∧ tkind Tryz.prog t = x9 ∧ teq Tryz.prog t = x10 ∧ tpt Tryz.prog t = x11
theorem tyf {t : Nat} {x0 : Bool} {x1 : Nat} {x2 : Option TypeId} {x3 : Option (Nat × TypeId)} {x4 : Option (List (Nat × TypeId))} {x5 : Option IntKind} {x6 : Bool} {x7 : Option Bool} {x8 : Nat} {x9 : Option Nat} {x10 : Option (List Nat)} {x11 : Bool} (h : (tund Tryz.prog t, tsz Tryz.prog t, tel Tryz.prog t, tarr Tryz.prog t, tfld Tryz.prog t, tint Tryz.prog t, tstr Tryz.prog t, tagg Tryz.prog t, tby Tryz.prog t, tkind Tryz.prog t, teq Tryz.prog t, tpt Tryz.prog t) = (x0, x1, x2, x3, x4, x5, x6, x7, x8, x9, x10, x11)) : TyF t x0 x1 x2 x3 x4 x5 x6 x7 x8 x9 x10 x11 := by simpa only [TyF, Prod.mk.injEq] using h
@[go_sem] theorem t0 : TyF 0 true 1 none none none none false (some false) 0 none none false := tyf (by kernel_rfl)
@[go_sem] theorem tzA_0 : tzA Tryz.prog 0 = (some (AV.tup []) : Option AV) := by kernel_rfl
@[go_sem] theorem t2 : TyF 2 true 1 none none none (some .i64) false (some false) 8 (some 0) none false := tyf (by kernel_rfl)
@[go_sem] theorem tzA_2 : tzA Tryz.prog 2 = (some (AV.v (Value.int IntKind.i64 (0))) : Option AV) := by kernel_rfl
@[go_sem] theorem t3 : TyF 3 true 1 none none none (some .i64) false (some false) 8 (some 0) none false := tyf (by kernel_rfl)
@[go_sem] theorem tzA_3 : tzA Tryz.prog 3 = (some (AV.v (Value.int IntKind.i64 (0))) : Option AV) := by kernel_rfl
@[go_sem] theorem t4 : TyF 4 true 1 none none none none false (some false) 1 (some 1) none false := tyf (by kernel_rfl)
@[go_sem] theorem tzA_4 : tzA Tryz.prog 4 = (some (AV.v (Value.bool false)) : Option AV) := by kernel_rfl
@[go_sem] theorem t5 : TyF 5 true 1 none none none (some .u8) false (some false) 1 (some 0) none false := tyf (by kernel_rfl)
@[go_sem] theorem tzA_5 : tzA Tryz.prog 5 = (some (AV.v (Value.int IntKind.u8 (0))) : Option AV) := by kernel_rfl
@[go_sem] theorem t9 : TyF 9 true 1 none none none none true (some false) 16 (some 2) none false := tyf (by kernel_rfl)
@[go_sem] theorem tzA_9 : tzA Tryz.prog 9 = (some (AV.v (Value.string ByteArray.empty)) : Option AV) := by kernel_rfl
@[go_sem] theorem t20 : TyF 20 true 1 none none none none false (some false) 16 none none false := tyf (by kernel_rfl)
@[go_sem] theorem tzA_20 : tzA Tryz.prog 20 = (some (AV.v Value.nilIface) : Option AV) := by kernel_rfl
@[go_sem] theorem t21 : TyF 21 true 1 none none none (some .i32) false (some false) 4 (some 0) none false := tyf (by kernel_rfl)
@[go_sem] theorem tzA_21 : tzA Tryz.prog 21 = (some (AV.v (Value.int IntKind.i32 (0))) : Option AV) := by kernel_rfl
@[go_sem] theorem t22 : TyF 22 true 1 (some 67) none none none false (some false) 24 none none false := tyf (by kernel_rfl)
@[go_sem] theorem tz_22 : tz Tryz.prog 22 = some (Value.slice none 0 0) := by kernel_rfl
@[go_sem] theorem tzA_22 : tzA Tryz.prog 22 = (some (AV.v (Value.slice none 0 0)) : Option AV) := by kernel_rfl
@[go_sem] theorem t23 : TyF 23 true 1 (some 89) none none none false (some false) 24 none none false := tyf (by kernel_rfl)
@[go_sem] theorem tz_23 : tz Tryz.prog 23 = some (Value.slice none 0 0) := by kernel_rfl
@[go_sem] theorem tzA_23 : tzA Tryz.prog 23 = (some (AV.v (Value.slice none 0 0)) : Option AV) := by kernel_rfl
@[go_sem] theorem t24 : TyF 24 true 1 (some 3) none none none false (some false) 24 none none false := tyf (by kernel_rfl)
@[go_sem] theorem tz_24 : tz Tryz.prog 24 = some (Value.slice none 0 0) := by kernel_rfl
@[go_sem] theorem tzA_24 : tzA Tryz.prog 24 = (some (AV.v (Value.slice none 0 0)) : Option AV) := by kernel_rfl
@[go_sem] theorem t25 : TyF 25 true 1 (some 65) none none none false (some false) 24 none none false := tyf (by kernel_rfl)
@[go_sem] theorem tz_25 : tz Tryz.prog 25 = some (Value.slice none 0 0) := by kernel_rfl
@[go_sem] theorem tzA_25 : tzA Tryz.prog 25 = (some (AV.v (Value.slice none 0 0)) : Option AV) := by kernel_rfl
@[go_sem] theorem t28 : TyF 28 true 1 none none none none false (some false) 8 none none false := tyf (by kernel_rfl)
@[go_sem] theorem tzA_28 : tzA Tryz.prog 28 = (some (AV.v Value.nilFunc) : Option AV) := by kernel_rfl
@[go_sem] theorem t30 : TyF 30 true 2 none none (some [(0, 3), (1, 3)]) none false (some true) 16 none (some [0, 0]) false := tyf (by kernel_rfl)
@[go_sem] theorem tzA_30 : tzA Tryz.prog 30 = (some (AV.agg [AV.v (Value.int IntKind.i64 (0)), AV.v (Value.int IntKind.i64 (0))]) : Option AV) := by kernel_rfl
@[go_sem] theorem t31 : TyF 31 true 1 none none none (some .i64) false (some false) 8 (some 0) none false := tyf (by kernel_rfl)
@[go_sem] theorem tzA_31 : tzA Tryz.prog 31 = (some (AV.v (Value.int IntKind.i64 (0))) : Option AV) := by kernel_rfl
@[go_sem] theorem t32 : TyF 32 true 1 none none none none false (some false) 0 none none false := tyf (by kernel_rfl)
@[go_sem] theorem tzA_32 : tzA Tryz.prog 32 = (some (AV.tup [AV.v (Value.agg { toList := [Value.int IntKind.i64 (0), Value.int IntKind.i64 (0)] }), AV.v (Value.int IntKind.i64 (0))]) : Option AV) := by kernel_rfl
@[go_sem] theorem t34 : TyF 34 true 1 none none none none false (some false) 0 none none false := tyf (by kernel_rfl)
@[go_sem] theorem tzA_34 : tzA Tryz.prog 34 = (some (AV.tup [AV.v (Value.string ByteArray.empty), AV.v (Value.int IntKind.i64 (0))]) : Option AV) := by kernel_rfl
@[go_sem] theorem t37 : TyF 37 true 1 (some 9) none none none false (some false) 24 none none false := tyf (by kernel_rfl)
@[go_sem] theorem tz_37 : tz Tryz.prog 37 = some (Value.slice none 0 0) := by kernel_rfl
@[go_sem] theorem tzA_37 : tzA Tryz.prog 37 = (some (AV.v (Value.slice none 0 0)) : Option AV) := by kernel_rfl
@[go_sem] theorem t39 : TyF 39 true 4 none none (some [(0, 3), (1, 3), (2, 3), (3, 3)]) none false (some true) 32 none (some [0, 0, 0, 0]) false := tyf (by kernel_rfl)
@[go_sem] theorem tzA_39 : tzA Tryz.prog 39 = (some (AV.agg [AV.v (Value.int IntKind.i64 (0)), AV.v (Value.int IntKind.i64 (0)), AV.v (Value.int IntKind.i64 (0)), AV.v (Value.int IntKind.i64 (0))]) : Option AV) := by kernel_rfl
@[go_sem] theorem t40 : TyF 40 true 1 none none none none false (some false) 0 none none false := tyf (by kernel_rfl)
@[go_sem] theorem tzA_40 : tzA Tryz.prog 40 = (some (AV.tup [AV.v (Value.agg { toList := [Value.int IntKind.i64 (0), Value.int IntKind.i64 (0), Value.int IntKind.i64 (0), Value.int IntKind.i64 (0)] }), AV.v (Value.int IntKind.i64 (0))]) : Option AV) := by kernel_rfl
@[go_sem] theorem t42 : TyF 42 true 1 (some 91) none none none false (some false) 24 none none false := tyf (by kernel_rfl)
@[go_sem] theorem tz_42 : tz Tryz.prog 42 = some (Value.slice none 0 0) := by kernel_rfl
@[go_sem] theorem tzA_42 : tzA Tryz.prog 42 = (some (AV.v (Value.slice none 0 0)) : Option AV) := by kernel_rfl
@[go_sem] theorem t44 : TyF 44 true 1 none none none none false (some false) 0 none none false := tyf (by kernel_rfl)
@[go_sem] theorem tzA_44 : tzA Tryz.prog 44 = (some (AV.tup [AV.v (Value.int IntKind.i64 (0)), AV.v (Value.int IntKind.i64 (0)), AV.v (Value.int IntKind.i64 (0))]) : Option AV) := by kernel_rfl
@[go_sem] theorem t46 : TyF 46 true 1 (some 58) none none none false (some false) 24 none none false := tyf (by kernel_rfl)
@[go_sem] theorem tz_46 : tz Tryz.prog 46 = some (Value.slice none 0 0) := by kernel_rfl
@[go_sem] theorem tzA_46 : tzA Tryz.prog 46 = (some (AV.v (Value.slice none 0 0)) : Option AV) := by kernel_rfl
@[go_sem] theorem t47 : TyF 47 true 1 none none none none false (some false) 0 none none false := tyf (by kernel_rfl)
@[go_sem] theorem tzA_47 : tzA Tryz.prog 47 = (some (AV.tup [AV.v (Value.int IntKind.i64 (0)), AV.v (Value.int IntKind.i64 (0))]) : Option AV) := by kernel_rfl
@[go_sem] theorem t49 : TyF 49 true 1 (some 99) none none none false (some false) 24 none none false := tyf (by kernel_rfl)
@[go_sem] theorem tz_49 : tz Tryz.prog 49 = some (Value.slice none 0 0) := by kernel_rfl
@[go_sem] theorem tzA_49 : tzA Tryz.prog 49 = (some (AV.v (Value.slice none 0 0)) : Option AV) := by kernel_rfl
@[go_sem] theorem t50 : TyF 50 true 1 none none none none false (some false) 0 none none false := tyf (by kernel_rfl)
@[go_sem] theorem tzA_50 : tzA Tryz.prog 50 = (some (AV.tup [AV.v (Value.slice none 0 0), AV.v (Value.int IntKind.i64 (0))]) : Option AV) := by kernel_rfl
@[go_sem] theorem t51 : TyF 51 true 1 none none none none false (some false) 8 none none false := tyf (by kernel_rfl)
@[go_sem] theorem tzA_51 : tzA Tryz.prog 51 = (some (AV.v Value.nilFunc) : Option AV) := by kernel_rfl
@[go_sem] theorem t52 : TyF 52 true 1 none none none none false (some false) 0 none none false := tyf (by kernel_rfl)
@[go_sem] theorem tzA_52 : tzA Tryz.prog 52 = (some (AV.tup [AV.v (Value.int IntKind.i64 (0)), AV.v (Value.bool false)]) : Option AV) := by kernel_rfl
@[go_sem] theorem t53 : TyF 53 true 1 none none none none false (some false) 8 none none false := tyf (by kernel_rfl)
@[go_sem] theorem tzA_53 : tzA Tryz.prog 53 = (some (AV.v Value.nilFunc) : Option AV) := by kernel_rfl
@[go_sem] theorem t55 : TyF 55 true 1 none none none none false (some false) 0 none none false := tyf (by kernel_rfl)
@[go_sem] theorem tzA_55 : tzA Tryz.prog 55 = (some (AV.tup [AV.v (Value.slice none 0 0), AV.v (Value.int IntKind.i64 (0)), AV.v (Value.int IntKind.i64 (0))]) : Option AV) := by kernel_rfl
@[go_sem] theorem t58 : TyF 58 true 2 none none (some [(0, 3), (1, 3)]) none false (some true) 16 none (some [0, 0]) false := tyf (by kernel_rfl)
@[go_sem] theorem tzA_58 : tzA Tryz.prog 58 = (some (AV.agg [AV.v (Value.int IntKind.i64 (0)), AV.v (Value.int IntKind.i64 (0))]) : Option AV) := by kernel_rfl
@[go_sem] theorem t59 : TyF 59 true 1 none none none none false (some false) 0 none none false := tyf (by kernel_rfl)
@[go_sem] theorem tzA_59 : tzA Tryz.prog 59 = (some (AV.tup [AV.v (Value.slice none 0 0), AV.v (Value.int IntKind.i64 (0))]) : Option AV) := by kernel_rfl
@[go_sem] theorem t65 : TyF 65 true 3 none none (some [(0, 9), (1, 9), (2, 3)]) none false (some true) 40 none (some [2, 2, 0]) false := tyf (by kernel_rfl)
@[go_sem] theorem tzA_65 : tzA Tryz.prog 65 = (some (AV.agg [AV.v (Value.string ByteArray.empty), AV.v (Value.string ByteArray.empty), AV.v (Value.int IntKind.i64 (0))]) : Option AV) := by kernel_rfl
@[go_sem] theorem t67 : TyF 67 true 3 none (some (3, 3)) none none false (some true) 24 none none false := tyf (by kernel_rfl)
@[go_sem] theorem tzA_67 : tzA Tryz.prog 67 = (some (AV.agg [AV.v (Value.int IntKind.i64 (0)), AV.v (Value.int IntKind.i64 (0)), AV.v (Value.int IntKind.i64 (0))]) : Option AV) := by kernel_rfl
@[go_sem] theorem t70 : TyF 70 true 1 none none none none false (some false) 8 none none false := tyf (by kernel_rfl)
@[go_sem] theorem tzA_70 : tzA Tryz.prog 70 = (some (AV.v Value.nilFunc) : Option AV) := by kernel_rfl
@[go_sem] theorem t72 : TyF 72 true 1 none none none none false (some false) 8 none none false := tyf (by kernel_rfl)
@[go_sem] theorem tzA_72 : tzA Tryz.prog 72 = (some (AV.v Value.nilFunc) : Option AV) := by kernel_rfl
@[go_sem] theorem t73 : TyF 73 true 1 none none none none false (some false) 8 none none false := tyf (by kernel_rfl)
@[go_sem] theorem tzA_73 : tzA Tryz.prog 73 = (some (AV.v Value.nilFunc) : Option AV) := by kernel_rfl
@[go_sem] theorem t75 : TyF 75 true 1 none none none none false (some false) 16 none none false := tyf (by kernel_rfl)
@[go_sem] theorem tzA_75 : tzA Tryz.prog 75 = (some (AV.v Value.nilIface) : Option AV) := by kernel_rfl
@[go_sem] theorem t76 : TyF 76 true 1 none none none none false (some false) 0 none none false := tyf (by kernel_rfl)
@[go_sem] theorem tzA_76 : tzA Tryz.prog 76 = (some (AV.tup [AV.v (Value.int IntKind.i64 (0)), AV.v Value.nilIface]) : Option AV) := by kernel_rfl
@[go_sem] theorem t79 : TyF 79 true 1 none none none none false (some false) 8 none none false := tyf (by kernel_rfl)
@[go_sem] theorem tzA_79 : tzA Tryz.prog 79 = (some (AV.v Value.nilFunc) : Option AV) := by kernel_rfl
@[go_sem] theorem t82 : TyF 82 true 1 none none none none false (some false) 8 none none false := tyf (by kernel_rfl)
@[go_sem] theorem tzA_82 : tzA Tryz.prog 82 = (some (AV.v Value.nilFunc) : Option AV) := by kernel_rfl
@[go_sem] theorem t84 : TyF 84 true 1 none none none none false (some false) 8 none none false := tyf (by kernel_rfl)
@[go_sem] theorem tzA_84 : tzA Tryz.prog 84 = (some (AV.v (Value.map none)) : Option AV) := by kernel_rfl
@[go_sem] theorem t85 : TyF 85 true 1 none none none none false (some false) 8 none none false := tyf (by kernel_rfl)
@[go_sem] theorem tzA_85 : tzA Tryz.prog 85 = (some (AV.v Value.nilFunc) : Option AV) := by kernel_rfl
@[go_sem] theorem t87 : TyF 87 true 3 none none (some [(0, 3), (1, 3), (2, 9)]) none false (some true) 32 none (some [0, 0, 2]) false := tyf (by kernel_rfl)
@[go_sem] theorem tzA_87 : tzA Tryz.prog 87 = (some (AV.agg [AV.v (Value.int IntKind.i64 (0)), AV.v (Value.int IntKind.i64 (0)), AV.v (Value.string ByteArray.empty)]) : Option AV) := by kernel_rfl
@[go_sem] theorem t88 : TyF 88 true 1 none none none none false (some false) 0 none none false := tyf (by kernel_rfl)
@[go_sem] theorem tzA_88 : tzA Tryz.prog 88 = (some (AV.tup [AV.v (Value.agg { toList := [Value.int IntKind.i64 (0), Value.int IntKind.i64 (0), Value.string ByteArray.empty] }), AV.v (Value.bool false)]) : Option AV) := by kernel_rfl
@[go_sem] theorem t89 : TyF 89 true 4 none (some (4, 3)) none none false (some true) 32 none none false := tyf (by kernel_rfl)
@[go_sem] theorem tzA_89 : tzA Tryz.prog 89 = (some (AV.agg [AV.v (Value.int IntKind.i64 (0)), AV.v (Value.int IntKind.i64 (0)), AV.v (Value.int IntKind.i64 (0)), AV.v (Value.int IntKind.i64 (0))]) : Option AV) := by kernel_rfl
@[go_sem] theorem t91 : TyF 91 true 4 none none (some [(0, 30), (2, 3), (3, 3)]) none false (some true) 32 none (some [0, 0, 0, 0]) false := tyf (by kernel_rfl)
@[go_sem] theorem tzA_91 : tzA Tryz.prog 91 = (some (AV.agg [AV.v (Value.int IntKind.i64 (0)), AV.v (Value.int IntKind.i64 (0)), AV.v (Value.int IntKind.i64 (0)), AV.v (Value.int IntKind.i64 (0))]) : Option AV) := by kernel_rfl
@[go_sem] theorem t94 : TyF 94 true 1 none none none none false (some false) 0 none none false := tyf (by kernel_rfl)
@[go_sem] theorem tzA_94 : tzA Tryz.prog 94 = (some (AV.tup [AV.v (Value.slice none 0 0), AV.v (Value.bool false)]) : Option AV) := by kernel_rfl
@[go_sem] theorem t99 : TyF 99 true 3 none none (some [(0, 30), (2, 3)]) none false (some true) 24 none (some [0, 0, 0]) false := tyf (by kernel_rfl)
@[go_sem] theorem tzA_99 : tzA Tryz.prog 99 = (some (AV.agg [AV.v (Value.int IntKind.i64 (0)), AV.v (Value.int IntKind.i64 (0)), AV.v (Value.int IntKind.i64 (0))]) : Option AV) := by kernel_rfl
@[go_sem] theorem t101 : TyF 101 true 1 none none none none false (some false) 8 none none false := tyf (by kernel_rfl)
@[go_sem] theorem tzA_101 : tzA Tryz.prog 101 = (some (AV.v Value.nilFunc) : Option AV) := by kernel_rfl
@[go_sem] theorem t105 : TyF 105 true 1 none none none none false (some false) 8 none none false := tyf (by kernel_rfl)
@[go_sem] theorem tzA_105 : tzA Tryz.prog 105 = (some (AV.v Value.nilFunc) : Option AV) := by kernel_rfl
@[go_sem] theorem t106 : TyF 106 true 1 none none none none false (some false) 8 none none false := tyf (by kernel_rfl)
@[go_sem] theorem tzA_106 : tzA Tryz.prog 106 = (some (AV.v Value.nilFunc) : Option AV) := by kernel_rfl
@[go_sem] theorem t108 : TyF 108 true 1 none none none none false (some false) 8 none none false := tyf (by kernel_rfl)
@[go_sem] theorem tzA_108 : tzA Tryz.prog 108 = (some (AV.v (Value.map none)) : Option AV) := by kernel_rfl
@[go_sem] theorem t109 : TyF 109 true 1 none none none none false (some false) 8 none none false := tyf (by kernel_rfl)
@[go_sem] theorem tzA_109 : tzA Tryz.prog 109 = (some (AV.v Value.nilFunc) : Option AV) := by kernel_rfl
@[go_sem] theorem t110 : TyF 110 true 1 none none none none false (some false) 8 none none false := tyf (by kernel_rfl)
@[go_sem] theorem tzA_110 : tzA Tryz.prog 110 = (some (AV.v Value.nilFunc) : Option AV) := by kernel_rfl
@[go_sem] theorem t116 : TyF 116 true 1 none none none none false (some false) 8 none none false := tyf (by kernel_rfl)
@[go_sem] theorem tzA_116 : tzA Tryz.prog 116 = (some (AV.v Value.nilFunc) : Option AV) := by kernel_rfl
@[go_sem] theorem t117 : TyF 117 true 256 none (some (256, 4)) none none false (some true) 256 none none false := tyf (by kernel_rfl)
@[go_sem] theorem t118 : TyF 118 true 256 none (some (256, 4)) none none false (some true) 256 none none false := tyf (by kernel_rfl)
@[go_sem] theorem t119 : TyF 119 true 1 none none none none false (some false) 0 none none false := tyf (by kernel_rfl)
@[go_sem] theorem tzA_119 : tzA Tryz.prog 119 = (some (AV.tup [AV.v (Value.agg { toList := [Value.bool false, Value.bool false, Value.bool false, Value.bool false, Value.bool false, Value.bool false, Value.bool false, Value.bool false, Value.bool false, Value.bool false, Value.bool false, Value.bool false, Value.bool false, Value.bool false, Value.bool false, Value.bool false, Value.bool false, Value.bool false, Value.bool false, Value.bool false, Value.bool false, Value.bool false, Value.bool false, Value.bool false, Value.bool false, Value.bool false, Value.bool false, Value.bool false, Value.bool false, Value.bool false, Value.bool false, Value.bool false, Value.bool false, Value.bool false, Value.bool false, Value.bool false, Value.bool false, Value.bool false, Value.bool false, Value.bool false, Value.bool false, Value.bool false, Value.bool false, Value.bool false, Value.bool false, Value.bool false, Value.bool false, Value.bool false, Value.bool false, Value.bool false, Value.bool false, Value.bool false, Value.bool false, Value.bool false, Value.bool false, Value.bool false, Value.bool false, Value.bool false, Value.bool false, Value.bool false, Value.bool false, Value.bool false, Value.bool false, Value.bool false, Value.bool false, Value.bool false, Value.bool false, Value.bool false, Value.bool false, Value.bool false, Value.bool false, Value.bool false, Value.bool false, Value.bool false, Value.bool false, Value.bool false, Value.bool false, Value.bool false, Value.bool false, Value.bool false, Value.bool false, Value.bool false, Value.bool false, Value.bool false, Value.bool false, Value.bool false, Value.bool false, Value.bool false, Value.bool false, Value.bool false, Value.bool false, Value.bool false, Value.bool false, Value.bool false, Value.bool false, Value.bool false, Value.bool false, Value.bool false, Value.bool false, Value.bool false, Value.bool false, Value.bool false, Value.bool false, Value.bool false, Value.bool false, Value.bool false, Value.bool false, Value.bool false, Value.bool false, Value.bool false, Value.bool false, Value.bool false, Value.bool false, Value.bool false, Value.bool false, Value.bool false, Value.bool false, Value.bool false, Value.bool false, Value.bool false, Value.bool false, Value.bool false, Value.bool false, Value.bool false, Value.bool false, Value.bool false, Value.bool false, Value.bool false, Value.bool false, Value.bool false, Value.bool false, Value.bool false, Value.bool false, Value.bool false, Value.bool false, Value.bool false, Value.bool false, Value.bool false, Value.bool false, Value.bool false, Value.bool false, Value.bool false, Value.bool false, Value.bool false, Value.bool false, Value.bool false, Value.bool false, Value.bool false, Value.bool false, Value.bool false, Value.bool false, Value.bool false, Value.bool false, Value.bool false, Value.bool false, Value.bool false, Value.bool false, Value.bool false, Value.bool false, Value.bool false, Value.bool false, Value.bool false, Value.bool false, Value.bool false, Value.bool false, Value.bool false, Value.bool false, Value.bool false, Value.bool false, Value.bool false, Value.bool false, Value.bool false, Value.bool false, Value.bool false, Value.bool false, Value.bool false, Value.bool false, Value.bool false, Value.bool false, Value.bool false, Value.bool false, Value.bool false, Value.bool false, Value.bool false, Value.bool false, Value.bool false, Value.bool false, Value.bool false, Value.bool false, Value.bool false, Value.bool false, Value.bool false, Value.bool false, Value.bool false, Value.bool false, Value.bool false, Value.bool false, Value.bool false, Value.bool false, Value.bool false, Value.bool false, Value.bool false, Value.bool false, Value.bool false, Value.bool false, Value.bool false, Value.bool false, Value.bool false, Value.bool false, Value.bool false, Value.bool false, Value.bool false, Value.bool false, Value.bool false, Value.bool false, Value.bool false, Value.bool false, Value.bool false, Value.bool false, Value.bool false, Value.bool false, Value.bool false, Value.bool false, Value.bool false, Value.bool false, Value.bool false, Value.bool false, Value.bool false, Value.bool false, Value.bool false, Value.bool false, Value.bool false, Value.bool false, Value.bool false, Value.bool false, Value.bool false, Value.bool false, Value.bool false, Value.bool false, Value.bool false, Value.bool false, Value.bool false, Value.bool false, Value.bool false, Value.bool false, Value.bool false, Value.bool false, Value.bool false, Value.bool false, Value.bool false, Value.bool false, Value.bool false, Value.bool false, Value.bool false, Value.bool false, Value.bool false] }), AV.v (Value.bool false)]) : Option AV) := by kernel_rfl
@[go_sem] theorem t122 : TyF 122 true 1 none none none none false (some false) 8 none none true := tyf (by kernel_rfl)
@[go_sem] theorem tzA_122 : tzA Tryz.prog 122 = (some (AV.v (Value.pointer none)) : Option AV) := by kernel_rfl
@[go_sem] theorem t124 : TyF 124 true 1 none none none none false (some false) 8 none none false := tyf (by kernel_rfl)
@[go_sem] theorem tzA_124 : tzA Tryz.prog 124 = (some (AV.v Value.nilFunc) : Option AV) := by kernel_rfl
@[go_sem] theorem t127 : TyF 127 true 1 none none none none false (some false) 8 none none false := tyf (by kernel_rfl)
@[go_sem] theorem tzA_127 : tzA Tryz.prog 127 = (some (AV.v Value.nilFunc) : Option AV) := by kernel_rfl
@[go_sem] theorem t128 : TyF 128 true 1 none none none none false (some false) 0 none none false := tyf (by kernel_rfl)
@[go_sem] theorem tzA_128 : tzA Tryz.prog 128 = (some (AV.tup [AV.v (Value.int IntKind.i64 (0)), AV.v (Value.int IntKind.i64 (0)), AV.v (Value.int IntKind.i64 (0))]) : Option AV) := by kernel_rfl
@[go_sem] theorem t130 : TyF 130 true 1 none none none none false (some false) 8 none none false := tyf (by kernel_rfl)
@[go_sem] theorem tzA_130 : tzA Tryz.prog 130 = (some (AV.v Value.nilFunc) : Option AV) := by kernel_rfl
@[go_sem] theorem t135 : TyF 135 true 1 none none none (some .u64) false (some false) 8 (some 0) none false := tyf (by kernel_rfl)
@[go_sem] theorem tzA_135 : tzA Tryz.prog 135 = (some (AV.v (Value.int IntKind.u64 (0))) : Option AV) := by kernel_rfl
@[go_sem] theorem t136 : TyF 136 true 1 (some 5) none none none false (some false) 24 none none false := tyf (by kernel_rfl)
@[go_sem] theorem tz_136 : tz Tryz.prog 136 = some (Value.slice none 0 0) := by kernel_rfl
@[go_sem] theorem tzA_136 : tzA Tryz.prog 136 = (some (AV.v (Value.slice none 0 0)) : Option AV) := by kernel_rfl
@[go_sem] theorem t137 : TyF 137 true 1 none none none (some .i64) false (some false) 8 (some 0) none false := tyf (by kernel_rfl)
@[go_sem] theorem tzA_137 : tzA Tryz.prog 137 = (some (AV.v (Value.int IntKind.i64 (0))) : Option AV) := by kernel_rfl
@[go_sem] theorem t138 : TyF 138 true 1 none none none none false (some false) 0 none none false := tyf (by kernel_rfl)
@[go_sem] theorem tzA_138 : tzA Tryz.prog 138 = (some (AV.tup [AV.v (Value.int IntKind.i64 (0)), AV.v Value.nilIface]) : Option AV) := by kernel_rfl
@[go_sem] theorem t139 : TyF 139 true 1 none none none none false (some false) 8 none none false := tyf (by kernel_rfl)
@[go_sem] theorem tzA_139 : tzA Tryz.prog 139 = (some (AV.v Value.nilFunc) : Option AV) := by kernel_rfl
@[go_sem] theorem t140 : TyF 140 true 1 none none none none false (some false) 8 none none true := tyf (by kernel_rfl)
@[go_sem] theorem tzA_140 : tzA Tryz.prog 140 = (some (AV.v (Value.pointer none)) : Option AV) := by kernel_rfl
@[go_sem] theorem t143 : TyF 143 true 1 none none none none false (some false) 0 none none false := tyf (by kernel_rfl)
@[go_sem] theorem tzA_143 : tzA Tryz.prog 143 = (some (AV.tup [AV.v (Value.int IntKind.u64 (0)), AV.v (Value.int IntKind.u64 (0))]) : Option AV) := by kernel_rfl
@[go_sem] theorem t145 : TyF 145 true 1 none none none none false (some false) 8 none none true := tyf (by kernel_rfl)
@[go_sem] theorem tzA_145 : tzA Tryz.prog 145 = (some (AV.v (Value.pointer none)) : Option AV) := by kernel_rfl
@[go_sem] theorem t146 : TyF 146 true 2 none none (some [(0, 145), (1, 136)]) none false (some true) 32 none none false := tyf (by kernel_rfl)
@[go_sem] theorem tzA_146 : tzA Tryz.prog 146 = (some (AV.agg [AV.v (Value.pointer none), AV.v (Value.slice none 0 0)]) : Option AV) := by kernel_rfl
@[go_sem] theorem t147 : TyF 147 true 2 none none (some [(0, 145), (1, 136)]) none false (some true) 32 none none false := tyf (by kernel_rfl)
@[go_sem] theorem tzA_147 : tzA Tryz.prog 147 = (some (AV.agg [AV.v (Value.pointer none), AV.v (Value.slice none 0 0)]) : Option AV) := by kernel_rfl
@[go_sem] theorem t148 : TyF 148 true 1 none none none none false (some false) 8 none none false := tyf (by kernel_rfl)
@[go_sem] theorem tzA_148 : tzA Tryz.prog 148 = (some (AV.v Value.nilFunc) : Option AV) := by kernel_rfl
@[go_sem] theorem t152 : TyF 152 true 1 none none none none false (some false) 0 none none false := tyf (by kernel_rfl)
@[go_sem] theorem tzA_152 : tzA Tryz.prog 152 = (some (AV.tup [AV.v (Value.int IntKind.i32 (0)), AV.v (Value.int IntKind.i64 (0))]) : Option AV) := by kernel_rfl
@[go_sem] theorem t156 : TyF 156 true 8 none (some (8, 3)) none none false (some true) 64 none none false := tyf (by kernel_rfl)
@[go_sem] theorem tzA_156 : tzA Tryz.prog 156 = (some (AV.agg [AV.v (Value.int IntKind.i64 (0)), AV.v (Value.int IntKind.i64 (0)), AV.v (Value.int IntKind.i64 (0)), AV.v (Value.int IntKind.i64 (0)), AV.v (Value.int IntKind.i64 (0)), AV.v (Value.int IntKind.i64 (0)), AV.v (Value.int IntKind.i64 (0)), AV.v (Value.int IntKind.i64 (0))]) : Option AV) := by kernel_rfl
@[go_sem] theorem t160 : TyF 160 true 1 none none none (some .i64) false (some false) 8 (some 0) none false := tyf (by kernel_rfl)
@[go_sem] theorem tzA_160 : tzA Tryz.prog 160 = (some (AV.v (Value.int IntKind.i64 (0))) : Option AV) := by kernel_rfl
@[go_sem] theorem t161 : TyF 161 true 1 none none none none false (some false) 0 none none false := tyf (by kernel_rfl)
@[go_sem] theorem tzA_161 : tzA Tryz.prog 161 = (some (AV.tup [AV.v (Value.int IntKind.i64 (0)), AV.v (Value.int IntKind.i64 (0))]) : Option AV) := by kernel_rfl
@[go_sem] theorem t164 : TyF 164 true 1 none none none none false (some false) 8 none none false := tyf (by kernel_rfl)
@[go_sem] theorem tzA_164 : tzA Tryz.prog 164 = (some (AV.v Value.nilFunc) : Option AV) := by kernel_rfl
@[go_sem] theorem t167 : TyF 167 true 1 none none none none false (some false) 8 none none false := tyf (by kernel_rfl)
@[go_sem] theorem tzA_167 : tzA Tryz.prog 167 = (some (AV.v Value.nilFunc) : Option AV) := by kernel_rfl
@[go_sem] theorem t168 : TyF 168 true 1 none none none (some .u32) false (some false) 4 (some 0) none false := tyf (by kernel_rfl)
@[go_sem] theorem tzA_168 : tzA Tryz.prog 168 = (some (AV.v (Value.int IntKind.u32 (0))) : Option AV) := by kernel_rfl
@[go_sem] theorem t170 : TyF 170 true 1 none none none (some .u64) false (some false) 8 (some 0) none false := tyf (by kernel_rfl)
@[go_sem] theorem tzA_170 : tzA Tryz.prog 170 = (some (AV.v (Value.int IntKind.u64 (0))) : Option AV) := by kernel_rfl
@[go_sem] theorem t171 : TyF 171 true 1 none none none none false (some false) 0 none none false := tyf (by kernel_rfl)
@[go_sem] theorem tzA_171 : tzA Tryz.prog 171 = (some (AV.tup [AV.v (Value.int IntKind.u64 (0)), AV.v Value.nilIface]) : Option AV) := by kernel_rfl
@[go_sem] theorem t173 : TyF 173 true 1 none none none none false (some false) 8 none none false := tyf (by kernel_rfl)
@[go_sem] theorem tzA_173 : tzA Tryz.prog 173 = (some (AV.v Value.nilFunc) : Option AV) := by kernel_rfl
@[go_sem] theorem t175 : TyF 175 true 3 none none (some [(0, 9), (1, 9), (2, 75)]) none false (some true) 48 none none false := tyf (by kernel_rfl)
@[go_sem] theorem tzA_175 : tzA Tryz.prog 175 = (some (AV.agg [AV.v (Value.string ByteArray.empty), AV.v (Value.string ByteArray.empty), AV.v Value.nilIface]) : Option AV) := by kernel_rfl
@[go_sem] theorem t178 : TyF 178 true 1 none none none none false (some false) 0 none none false := tyf (by kernel_rfl)
@[go_sem] theorem tzA_178 : tzA Tryz.prog 178 = (some (AV.tup [AV.v (Value.int IntKind.u32 (0)), AV.v (Value.int IntKind.u32 (0))]) : Option AV) := by kernel_rfl
@[go_sem] theorem t180 : TyF 180 true 1 none none none none false (some false) 0 none none false := tyf (by kernel_rfl)
@[go_sem] theorem tzA_180 : tzA Tryz.prog 180 = (some (AV.tup [AV.v (Value.int IntKind.u64 (0)), AV.v (Value.int IntKind.u64 (0))]) : Option AV) := by kernel_rfl
@[go_sem] theorem t182 : TyF 182 true 1 none none none none false (some false) 8 none none true := tyf (by kernel_rfl)
@[go_sem] theorem tzA_182 : tzA Tryz.prog 182 = (some (AV.v (Value.pointer none)) : Option AV) := by kernel_rfl
@[go_sem] theorem t185 : TyF 185 true 1 none none none none false (some false) 8 none none false := tyf (by kernel_rfl)
@[go_sem] theorem tzA_185 : tzA Tryz.prog 185 = (some (AV.v Value.nilFunc) : Option AV) := by kernel_rfl
@[go_sem] theorem t186 : TyF 186 true 1 none none none none false (some false) 8 none none false := tyf (by kernel_rfl)
@[go_sem] theorem tzA_186 : tzA Tryz.prog 186 = (some (AV.v Value.nilFunc) : Option AV) := by kernel_rfl
@[go_sem] theorem t188 : TyF 188 true 2 none (some (2, 3)) none none false (some true) 16 none none false := tyf (by kernel_rfl)
@[go_sem] theorem tzA_188 : tzA Tryz.prog 188 = (some (AV.agg [AV.v (Value.int IntKind.i64 (0)), AV.v (Value.int IntKind.i64 (0))]) : Option AV) := by kernel_rfl
@[go_sem] theorem t196 : TyF 196 true 1 none none none none false (some false) 8 none none true := tyf (by kernel_rfl)
@[go_sem] theorem tzA_196 : tzA Tryz.prog 196 = (some (AV.v (Value.pointer none)) : Option AV) := by kernel_rfl
@[go_sem] theorem t198 : TyF 198 true 1 none none (some [(0, 9)]) none false (some true) 16 none (some [2]) false := tyf (by kernel_rfl)
@[go_sem] theorem tzA_198 : tzA Tryz.prog 198 = (some (AV.agg [AV.v (Value.string ByteArray.empty)]) : Option AV) := by kernel_rfl
@[go_sem] theorem t199 : TyF 199 true 24 none (some (24, 5)) none none false (some true) 24 none none false := tyf (by kernel_rfl)
@[go_sem] theorem tzA_199 : tzA Tryz.prog 199 = (some (AV.agg [AV.v (Value.int IntKind.u8 (0)), AV.v (Value.int IntKind.u8 (0)), AV.v (Value.int IntKind.u8 (0)), AV.v (Value.int IntKind.u8 (0)), AV.v (Value.int IntKind.u8 (0)), AV.v (Value.int IntKind.u8 (0)), AV.v (Value.int IntKind.u8 (0)), AV.v (Value.int IntKind.u8 (0)), AV.v (Value.int IntKind.u8 (0)), AV.v (Value.int IntKind.u8 (0)), AV.v (Value.int IntKind.u8 (0)), AV.v (Value.int IntKind.u8 (0)), AV.v (Value.int IntKind.u8 (0)), AV.v (Value.int IntKind.u8 (0)), AV.v (Value.int IntKind.u8 (0)), AV.v (Value.int IntKind.u8 (0)), AV.v (Value.int IntKind.u8 (0)), AV.v (Value.int IntKind.u8 (0)), AV.v (Value.int IntKind.u8 (0)), AV.v (Value.int IntKind.u8 (0)), AV.v (Value.int IntKind.u8 (0)), AV.v (Value.int IntKind.u8 (0)), AV.v (Value.int IntKind.u8 (0)), AV.v (Value.int IntKind.u8 (0))]) : Option AV) := by kernel_rfl
@[go_sem] theorem t201 : TyF 201 true 1 none none none none false (some false) 0 none none false := tyf (by kernel_rfl)
@[go_sem] theorem tzA_201 : tzA Tryz.prog 201 = (some (AV.tup [AV.v (Value.slice none 0 0), AV.v (Value.string ByteArray.empty)]) : Option AV) := by kernel_rfl
@[go_sem] theorem t203 : TyF 203 true 1 none none none none false (some false) 8 none none true := tyf (by kernel_rfl)
@[go_sem] theorem tzA_203 : tzA Tryz.prog 203 = (some (AV.v (Value.pointer none)) : Option AV) := by kernel_rfl
@[go_sem] theorem t206 : TyF 206 true 256 none (some (256, 5)) none none false (some true) 256 none none false := tyf (by kernel_rfl)
@[go_sem] theorem t208 : TyF 208 true 2 none none (some [(0, 5), (1, 5)]) none false (some true) 2 none (some [0, 0]) false := tyf (by kernel_rfl)
@[go_sem] theorem tzA_208 : tzA Tryz.prog 208 = (some (AV.agg [AV.v (Value.int IntKind.u8 (0)), AV.v (Value.int IntKind.u8 (0))]) : Option AV) := by kernel_rfl
@[go_sem] theorem t209 : TyF 209 true 32 none (some (16, 208)) none none false (some true) 32 none none false := tyf (by kernel_rfl)
@[go_sem] theorem tzA_209 : tzA Tryz.prog 209 = (some (AV.agg [AV.v (Value.int IntKind.u8 (0)), AV.v (Value.int IntKind.u8 (0)), AV.v (Value.int IntKind.u8 (0)), AV.v (Value.int IntKind.u8 (0)), AV.v (Value.int IntKind.u8 (0)), AV.v (Value.int IntKind.u8 (0)), AV.v (Value.int IntKind.u8 (0)), AV.v (Value.int IntKind.u8 (0)), AV.v (Value.int IntKind.u8 (0)), AV.v (Value.int IntKind.u8 (0)), AV.v (Value.int IntKind.u8 (0)), AV.v (Value.int IntKind.u8 (0)), AV.v (Value.int IntKind.u8 (0)), AV.v (Value.int IntKind.u8 (0)), AV.v (Value.int IntKind.u8 (0)), AV.v (Value.int IntKind.u8 (0)), AV.v (Value.int IntKind.u8 (0)), AV.v (Value.int IntKind.u8 (0)), AV.v (Value.int IntKind.u8 (0)), AV.v (Value.int IntKind.u8 (0)), AV.v (Value.int IntKind.u8 (0)), AV.v (Value.int IntKind.u8 (0)), AV.v (Value.int IntKind.u8 (0)), AV.v (Value.int IntKind.u8 (0)), AV.v (Value.int IntKind.u8 (0)), AV.v (Value.int IntKind.u8 (0)), AV.v (Value.int IntKind.u8 (0)), AV.v (Value.int IntKind.u8 (0)), AV.v (Value.int IntKind.u8 (0)), AV.v (Value.int IntKind.u8 (0)), AV.v (Value.int IntKind.u8 (0)), AV.v (Value.int IntKind.u8 (0))]) : Option AV) := by kernel_rfl
@[go_sem] theorem t210 : TyF 210 true 1 none none none none false (some false) 8 none none false := tyf (by kernel_rfl)
@[go_sem] theorem tzA_210 : tzA Tryz.prog 210 = (some (AV.v Value.nilFunc) : Option AV) := by kernel_rfl
@[go_sem] theorem t212 : TyF 212 true 1 none none none none false (some false) 8 none none false := tyf (by kernel_rfl)
@[go_sem] theorem tzA_212 : tzA Tryz.prog 212 = (some (AV.v Value.nilFunc) : Option AV) := by kernel_rfl
@[go_sem] theorem t213 : TyF 213 true 1 none none none none false (some false) 8 none none false := tyf (by kernel_rfl)
@[go_sem] theorem tzA_213 : tzA Tryz.prog 213 = (some (AV.v Value.nilFunc) : Option AV) := by kernel_rfl
@[go_sem] theorem t214 : TyF 214 true 1 none none none none false (some false) 8 none none false := tyf (by kernel_rfl)
@[go_sem] theorem tzA_214 : tzA Tryz.prog 214 = (some (AV.v Value.nilFunc) : Option AV) := by kernel_rfl
@[go_sem] theorem t215 : TyF 215 true 1 none none none none false (some false) 8 none none false := tyf (by kernel_rfl)
@[go_sem] theorem tzA_215 : tzA Tryz.prog 215 = (some (AV.v Value.nilFunc) : Option AV) := by kernel_rfl
@[go_sem] theorem t216 : TyF 216 true 1 none none none none false (some false) 0 none none false := tyf (by kernel_rfl)
@[go_sem] theorem tzA_216 : tzA Tryz.prog 216 = (some (AV.tup [AV.v (Value.slice none 0 0), AV.v (Value.int IntKind.i64 (0)), AV.v (Value.int IntKind.i64 (0))]) : Option AV) := by kernel_rfl
@[go_sem] theorem t221 : TyF 221 true 20 none (some (20, 170)) none none false (some true) 160 none none false := tyf (by kernel_rfl)
@[go_sem] theorem tzA_221 : tzA Tryz.prog 221 = (some (AV.agg [AV.v (Value.int IntKind.u64 (0)), AV.v (Value.int IntKind.u64 (0)), AV.v (Value.int IntKind.u64 (0)), AV.v (Value.int IntKind.u64 (0)), AV.v (Value.int IntKind.u64 (0)), AV.v (Value.int IntKind.u64 (0)), AV.v (Value.int IntKind.u64 (0)), AV.v (Value.int IntKind.u64 (0)), AV.v (Value.int IntKind.u64 (0)), AV.v (Value.int IntKind.u64 (0)), AV.v (Value.int IntKind.u64 (0)), AV.v (Value.int IntKind.u64 (0)), AV.v (Value.int IntKind.u64 (0)), AV.v (Value.int IntKind.u64 (0)), AV.v (Value.int IntKind.u64 (0)), AV.v (Value.int IntKind.u64 (0)), AV.v (Value.int IntKind.u64 (0)), AV.v (Value.int IntKind.u64 (0)), AV.v (Value.int IntKind.u64 (0)), AV.v (Value.int IntKind.u64 (0))]) : Option AV) := by kernel_rfl
@[go_sem] theorem t222 : TyF 222 true 65 none (some (65, 5)) none none false (some true) 65 none none false := tyf (by kernel_rfl)
@[go_sem] theorem t223 : TyF 223 true 32 none (some (32, 5)) none none false (some true) 32 none none false := tyf (by kernel_rfl)
@[go_sem] theorem tzA_223 : tzA Tryz.prog 223 = (some (AV.agg [AV.v (Value.int IntKind.u8 (0)), AV.v (Value.int IntKind.u8 (0)), AV.v (Value.int IntKind.u8 (0)), AV.v (Value.int IntKind.u8 (0)), AV.v (Value.int IntKind.u8 (0)), AV.v (Value.int IntKind.u8 (0)), AV.v (Value.int IntKind.u8 (0)), AV.v (Value.int IntKind.u8 (0)), AV.v (Value.int IntKind.u8 (0)), AV.v (Value.int IntKind.u8 (0)), AV.v (Value.int IntKind.u8 (0)), AV.v (Value.int IntKind.u8 (0)), AV.v (Value.int IntKind.u8 (0)), AV.v (Value.int IntKind.u8 (0)), AV.v (Value.int IntKind.u8 (0)), AV.v (Value.int IntKind.u8 (0)), AV.v (Value.int IntKind.u8 (0)), AV.v (Value.int IntKind.u8 (0)), AV.v (Value.int IntKind.u8 (0)), AV.v (Value.int IntKind.u8 (0)), AV.v (Value.int IntKind.u8 (0)), AV.v (Value.int IntKind.u8 (0)), AV.v (Value.int IntKind.u8 (0)), AV.v (Value.int IntKind.u8 (0)), AV.v (Value.int IntKind.u8 (0)), AV.v (Value.int IntKind.u8 (0)), AV.v (Value.int IntKind.u8 (0)), AV.v (Value.int IntKind.u8 (0)), AV.v (Value.int IntKind.u8 (0)), AV.v (Value.int IntKind.u8 (0)), AV.v (Value.int IntKind.u8 (0)), AV.v (Value.int IntKind.u8 (0))]) : Option AV) := by kernel_rfl
@[go_sem] theorem t224 : TyF 224 true 64 none (some (64, 5)) none none false (some true) 64 none none false := tyf (by kernel_rfl)
@[go_sem] theorem tzA_224 : tzA Tryz.prog 224 = (some (AV.agg [AV.v (Value.int IntKind.u8 (0)), AV.v (Value.int IntKind.u8 (0)), AV.v (Value.int IntKind.u8 (0)), AV.v (Value.int IntKind.u8 (0)), AV.v (Value.int IntKind.u8 (0)), AV.v (Value.int IntKind.u8 (0)), AV.v (Value.int IntKind.u8 (0)), AV.v (Value.int IntKind.u8 (0)), AV.v (Value.int IntKind.u8 (0)), AV.v (Value.int IntKind.u8 (0)), AV.v (Value.int IntKind.u8 (0)), AV.v (Value.int IntKind.u8 (0)), AV.v (Value.int IntKind.u8 (0)), AV.v (Value.int IntKind.u8 (0)), AV.v (Value.int IntKind.u8 (0)), AV.v (Value.int IntKind.u8 (0)), AV.v (Value.int IntKind.u8 (0)), AV.v (Value.int IntKind.u8 (0)), AV.v (Value.int IntKind.u8 (0)), AV.v (Value.int IntKind.u8 (0)), AV.v (Value.int IntKind.u8 (0)), AV.v (Value.int IntKind.u8 (0)), AV.v (Value.int IntKind.u8 (0)), AV.v (Value.int IntKind.u8 (0)), AV.v (Value.int IntKind.u8 (0)), AV.v (Value.int IntKind.u8 (0)), AV.v (Value.int IntKind.u8 (0)), AV.v (Value.int IntKind.u8 (0)), AV.v (Value.int IntKind.u8 (0)), AV.v (Value.int IntKind.u8 (0)), AV.v (Value.int IntKind.u8 (0)), AV.v (Value.int IntKind.u8 (0)), AV.v (Value.int IntKind.u8 (0)), AV.v (Value.int IntKind.u8 (0)), AV.v (Value.int IntKind.u8 (0)), AV.v (Value.int IntKind.u8 (0)), AV.v (Value.int IntKind.u8 (0)), AV.v (Value.int IntKind.u8 (0)), AV.v (Value.int IntKind.u8 (0)), AV.v (Value.int IntKind.u8 (0)), AV.v (Value.int IntKind.u8 (0)), AV.v (Value.int IntKind.u8 (0)), AV.v (Value.int IntKind.u8 (0)), AV.v (Value.int IntKind.u8 (0)), AV.v (Value.int IntKind.u8 (0)), AV.v (Value.int IntKind.u8 (0)), AV.v (Value.int IntKind.u8 (0)), AV.v (Value.int IntKind.u8 (0)), AV.v (Value.int IntKind.u8 (0)), AV.v (Value.int IntKind.u8 (0)), AV.v (Value.int IntKind.u8 (0)), AV.v (Value.int IntKind.u8 (0)), AV.v (Value.int IntKind.u8 (0)), AV.v (Value.int IntKind.u8 (0)), AV.v (Value.int IntKind.u8 (0)), AV.v (Value.int IntKind.u8 (0)), AV.v (Value.int IntKind.u8 (0)), AV.v (Value.int IntKind.u8 (0)), AV.v (Value.int IntKind.u8 (0)), AV.v (Value.int IntKind.u8 (0)), AV.v (Value.int IntKind.u8 (0)), AV.v (Value.int IntKind.u8 (0)), AV.v (Value.int IntKind.u8 (0)), AV.v (Value.int IntKind.u8 (0))]) : Option AV) := by kernel_rfl
@[go_sem] theorem t232 : TyF 232 true 1 none none none none false (some false) 8 none none false := tyf (by kernel_rfl)
@[go_sem] theorem tzA_232 : tzA Tryz.prog 232 = (some (AV.v Value.nilFunc) : Option AV) := by kernel_rfl
@[go_sem] theorem t233 : TyF 233 true 1 none none none (some .i32) false (some false) 4 (some 0) none false := tyf (by kernel_rfl)
@[go_sem] theorem tzA_233 : tzA Tryz.prog 233 = (some (AV.v (Value.int IntKind.i32 (0))) : Option AV) := by kernel_rfl
attribute [go_sem] ne_eq not_true_eq_false not_false_eq_true decide_true decide_false List.length_map
end Go.Proofs.YtndhglacgiidbaaGreatDoor
attribute [go_sem_proc ↓] reduceIte
attribute [go_sem_proc] Nat.reduceEqDiff Nat.reduceMul Nat.reduceAdd Nat.reduceDiv Nat.reduceBEq Nat.reduceLeDiff Int.reduceToNat Int.reduceNe Int.reduceEq Int.reduceLT Int.reduceLE Int.reduceBEq Int.reduceBNe

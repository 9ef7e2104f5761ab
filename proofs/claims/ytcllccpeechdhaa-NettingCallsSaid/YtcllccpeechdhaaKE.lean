/- A heap-free account of the walk, fifth part; facts about types -/
import Derived.Test.YtcllccpeechdhaaKD
import Derived.Lib.UnsafeStr
import Derived.Laws.Externs
import Derived.DeepKeys
import Derived.Laws.IdiomRangeMap
import Derived.Sort.Grow
import Derived.Test.YtcllccpeechdhaaProg
set_option linter.unusedVariables false
set_option linter.unusedSimpArgs false
namespace Go.Vai
open Go.RowKit
section
variable {S : Sp} {dst : Option Nat} {ty : TypeId} {K : Env → Store → Prop} {E : Env} {σ : Store}
end
end Go.Vai
namespace Go.Vai
open Go.RowKit
section
variable {S : Sp} {dst : Option Nat} {ty : TypeId} {K : Env → Store → Prop} {E : Env} {σ : Store}
end
end Go.Vai
namespace Go.Vai
open Go.RowKit
section
variable {S : Sp} {dst : Option Nat} {ty : TypeId} {K : Env → Store → Prop} {E : Env} {σ : Store}
end
end Go.Vai
namespace Go.Vai
open Go.RowKit
def spM (P : Program) (f : FuncId) (N : Nat) (pins bad : List Nat) : Sp := { P, N, b := 131072 * (f + 1), pin := inI pins, yl := 0, Y := fun _ _ _ => False, bad := inI bad, old := fun i => Nat.blt (i / 16) (131072 * (f + 1)) || Nat.ble (131072 * (f + 1) + 100000) (i / 16) }
instance (P : Program) (f N : Nat) (pins bad : List Nat) : Plain (spM P f N pins bad) := ⟨fun _ _ _ _ _ hk => (show False from hk).elim⟩
section
variable (P : Program) (f N : Nat) (pins bad : List Nat)
@[go_sem] theorem spM_P : (spM P f N pins bad).P = P := rfl
@[go_sem] theorem spM_b : (spM P f N pins bad).b = 131072 * (f + 1) := rfl
@[go_sem] theorem spM_bad (id : Nat) : (spM P f N pins bad).bad id = bad.contains id := rfl
@[go_sem] theorem spM_N : (spM P f N pins bad).N = N := rfl
@[go_sem] theorem spM_pin (id : Nat) : (spM P f N pins bad).pin id = inI pins id := rfl
end
end Go.Vai
namespace Go.Vai
open Go.RowKit
section
variable {P : Program} {S : Sp} {kd bi : Bool} {dst : Option Nat} {ty t : TypeId} {K Kb : Env → Store → Prop} {E : Env} {σ : Store} (aso : Array Operand) (ts : Array TypeId)
@[go_sem] theorem cls_ustr : cls P (.call { callee := .builtin .unsafeString, args := aso, argTypes := ts }) ty = 5 := rfl
@[go_sem] theorem cls_copy : cls P (.call { callee := .builtin .copy, args := aso, argTypes := ts }) ty = 5 := rfl
@[go_sem] theorem cls_cap : cls P (.call { callee := .builtin .cap, args := aso, argTypes := ts }) ty = 5 := rfl
@[go_sem] theorem cls_s2a (x : Operand) : cls P (.sliceToArrayPointer t x) ty = 5 := rfl
@[go_sem ↓] theorem aop_ustr : aopC S kd bi dst (.call { callee := .builtin .unsafeString, args := aso, argTypes := ts }) ty K Kb E σ = semD S dst (.call { callee := .builtin .unsafeString, args := aso, argTypes := ts }) ty Kb E σ := rfl
@[go_sem ↓] theorem aop_copy : aopC S kd bi dst (.call { callee := .builtin .copy, args := aso, argTypes := ts }) ty K Kb E σ = semD S dst (.call { callee := .builtin .copy, args := aso, argTypes := ts }) ty Kb E σ := rfl
@[go_sem ↓] theorem aop_cap : aopC S kd bi dst (.call { callee := .builtin .cap, args := aso, argTypes := ts }) ty K Kb E σ = semD S dst (.call { callee := .builtin .cap, args := aso, argTypes := ts }) ty Kb E σ := rfl
@[go_sem ↓] theorem aop_s2a (x : Operand) : aopC S kd bi dst (.sliceToArrayPointer t x) ty K Kb E σ = semD S dst (.sliceToArrayPointer t x) ty Kb E σ := rfl
end
end Go.Vai
namespace Go.Vai
open Go.RowKit
variable {P : Program} {C : Fx} {w : World} {ρ : Nat → Option Nat} {Im : Nat → Prop} {M : Str} {E : Env} {σ : Store} {a : Act}
def spZ (P : Program) (f : FuncId) (N l : Nat) (bad : List Nat) : Sp := { P, N, b := 131072 * (f + 1), pin := fun _ => false, yl := l, Y := seqY, bad := inI bad, old := fun i => Nat.blt (i / 16) (131072 * (f + 1)) || Nat.ble (131072 * (f + 1) + 100000) (i / 16) }
section
variable (P : Program) (f N l : Nat) (bad : List Nat)
@[go_sem] theorem spZ_P : (spZ P f N l bad).P = P := rfl
@[go_sem] theorem spZ_b : (spZ P f N l bad).b = 131072 * (f + 1) := rfl
@[go_sem] theorem spZ_bad (id : Nat) : (spZ P f N l bad).bad id = bad.contains id := rfl
@[go_sem] theorem spZ_N : (spZ P f N l bad).N = N := rfl
@[go_sem] theorem spZ_pin (id : Nat) : (spZ P f N l bad).pin id = false := rfl
@[go_sem] theorem spZ_yl : (spZ P f N l bad).yl = l := rfl
@[go_sem] theorem spZ_Y : (spZ P f N l bad).Y = seqY := rfl
end
theorem freeze_reg {S : Sp} (hY : YMono S) {id : Nat} {ops : Array Oper} {draw : Bool} {Q : Exit → Env → Store → Prop} {E : Env} {σ : Store} (F : List Nat) (h : regC S draw ops (Q .normal) (frE (inI F) σ E) (frS (inI F) σ))
    (hF : (F.all fun i => !S.old i && !S.pin i) = true := by kernel_rfl) (hfit : codeQ S.P S.N noBad (.region id ops draw) = true := by kernel_rfl) : semC S (.region id ops draw) Q E σ := by
  simp only [List.all_eq_true, Bool.and_eq_true, Bool.not_eq_true'] at hF
  have hin : ∀ {id}, inI F id = true → id ∈ F := fun h => List.contains_iff_mem.1 h
  have no : ∀ {id} {b : Bool}, b = true → (inI F id = true → b = false) → inI F id = false := fun {id b} hb hh => by
    cases hi : inI F id with
    | false => rfl
    | true => have := hh hi; rw [hb] at this; cases this
  exact freeze_mk hY F h (fun id hid => no hid fun hi => (hF id (hin hi)).2) (fun id hid => no hid fun hi => (hF id (hin hi)).1) hfit
@[go_sem] theorem frz_yld (L p : Nat → Bool) (σ : Store) (l : Nat) : frz L p σ (.yld l) = .yld l := rfl
end Go.Vai
namespace Go.Vai
open Go.RowKit
def nnB : AV → Bool
  | .new .. => false
  | .nptr .. => false
  | _ => true
theorem R1_nn {w : World} {Im : Nat → Prop} {r : AV} {y : Value} {ob : Option Nat} (h : nnB r = true) : R1 w Im r y ob ↔ (ob = none ∧ IRep w Im r y) := by
  cases r <;> first | exact Iff.rfl | cases h
theorem RL_if {w : World} {Im : Nat → Prop} : ∀ {rs ss : List AV} {ys : List Value} {obs : List (Option Nat)}, (rs.all nnB) = true → (ss.all nnB) = true → asIfL rs ss → RL w Im rs ys obs → RL w Im ss ys obs
  | [], [], _, _, _, _, _, h => h
  | r :: rs, s :: ss, [], _, _, _, _, h => (h : False).elim
  | r :: rs, s :: ss, _ :: _, [], _, _, _, h => (h : False).elim
  | r :: rs, s :: ss, y :: ys, ob :: obs, h1, h2, h3, h => by
    simp only [List.all_cons, Bool.and_eq_true] at h1 h2
    obtain ⟨e1, e2⟩ := (R1_nn h1.1).1 h.1
    exact ⟨(R1_nn h2.1).2 ⟨e1, h3.1 _ _ _ e2⟩, RL_if h1.2 h2.2 h3.2 h.2⟩
  | [], _ :: _, _, _, _, _, h, _ => h.elim
  | _ :: _, [], _, _, _, _, h, _ => h.elim
theorem Ev.resL {P : Program} {f : FuncId} {args : List AV} {rs ss : List AV} (h : Ev P f args (.tup rs)) (h3 : asIfL rs ss) (h1 : (rs.all nnB) = true := by rfl) (h2 : (ss.all nnB) = true := by rfl) : Ev P f args (.tup ss) := by
  rintro xs r0 ⟨rfl, rfl⟩
  obtain ⟨a, b⟩ := h xs (.tup rs) ⟨rfl, rfl⟩
  refine ⟨a, fun w Im vs hlow hgk hv => (b w Im vs hlow hgk hv).mono fun e w' ⟨y, he, hx, Im1, g1, g2, ys, obs, g3, g4, g5⟩ => ⟨y, he, hx, Im1, g1, g2, ys, obs, g3, RL_if h1 h2 h3 g4, g5⟩⟩
end Go.Vai
namespace Go.Vai
open Go.RowKit
end Go.Vai
namespace Go.Vai
open Go.RowKit
theorem nilOwn_C {S : Sp} {c0 : Code} {Q : Exit → Env → Store → Prop} {E : Env} {σ : Store} (id id' i j e sz : Nat) {k : Blk} {el : AV} (hk : σ id = some k) (hid : id' ≠ id) (he : k.es[i]? = some el) (hc : el.cells[j]? = some (.v (.slice none 0 0))) (hkz : k.sz ≠ 0) (hnk : AV.namesL (isId id') k.es = false) (hpin : S.pin id' = false)
    (h : semC S c0 Q (killE (isId id') E) (updS (updS (killS (isId id') σ) id' ⟨e, sz, []⟩) id ⟨k.e, k.sz, k.es.set i (setC el j (.own id' sz 0 0))⟩)) : semC S c0 Q E σ := by
  intro C H n R hR a w ⟨ρ, Im, M, hw⟩
  have hpc : C.pin id' = none := by
    cases hp : C.pin id' with
    | none => rfl
    | some b => rw [H.pin id' b hp] at hpin; cases hpin
  have h1 := hw.kill H.G (isId id') (pin_not hpc)
  have h2 := h1.newNil H.G (d := id') hpc (clean_kill (by simp [isId]) E σ) e sz (dst := none) (v := .any) (y := undef) (fun d' e => by cases e) (.im _ _ (.any _))
  have hkk : k.kill (isId id') = k := by simp [Blk.kill, hnk]
  have hk3 : (updS (killS (isId id') σ) id' ⟨e, sz, []⟩) id = some k := by
    rw [updS_ne _ _ _ _ (Ne.symm hid)]
    simp only [killS]
    rw [if_neg (by simp [isId]; exact fun e => hid e.symm), hk]; simp [hkk]
  refine h C H n R hR a w ⟨updR (killR (isId id') ρ) id' none, Im, M, ?_⟩
  have hown : ∀ v : World, Rep v (updR (killR (isId id') ρ) id' none) Im (.own id' sz 0 0) (.slice none 0 0) := fun v => .ownNil _ _ (by simp)
  have h2' : Wit C (killE (isId id') E) (updS (killS (isId id') σ) id' ⟨e, sz, []⟩) a w (updR (killR (isId id') ρ) id' none) Im M := h2
  have hels : ∀ v ∈ (k.es.set i (setC el j (.own id' sz 0 0))), ∃ v0 ∈ k.es, v.cells.length = v0.cells.length := fun v hv => by
    rcases List.mem_or_eq_of_mem_set hv with hv | rfl
    · exact ⟨v, hv, rfl⟩
    · refine ⟨el, List.mem_of_getElem? he, ?_⟩
      have hj := (List.getElem?_eq_some_iff.1 hc).1
      rw [setC_cells (by simp; omega)]; simp; omega
  have hcell : ∀ (i' : Nat) (e' : AV) (j' : Nat) (c : AV), (k.es.set i (setC el j (.own id' sz 0 0)))[i']? = some e' → e'.cells[j']? = some c → (∃ e0, k.es[i']? = some e0 ∧ e0.cells[j']? = some c) ∨ (c = .own id' sz 0 0 ∧ i' = i ∧ j' = j) := fun i' e' j' c he' hc' => by
    rw [List.getElem?_set] at he'
    split at he'
    · rename_i hii
      subst hii
      split at he'
      · cases he'
        have hj := (List.getElem?_eq_some_iff.1 hc).1
        rw [setC_cells (by simp; omega)] at hc'
        simp only [AV.cells_own, List.length_singleton] at hc'
        rcases Nat.lt_trichotomy j' j with hlt | rfl | hgt
        · rw [List.append_assoc, List.getElem?_append_left (by simp; omega), List.getElem?_take, if_pos hlt] at hc'
          exact .inl ⟨el, he, hc'⟩
        · rw [List.append_assoc, List.getElem?_append_right (by simp; omega)] at hc'
          have : j' - (el.cells.take j').length = 0 := by simp; omega
          rw [this] at hc'; simp at hc'; exact .inr ⟨hc'.symm, rfl, rfl⟩
        · rw [List.getElem?_append_right (by simp; omega), List.getElem?_drop] at hc'
          have : j + 1 + (j' - (el.cells.take j ++ [AV.own id' sz 0 0]).length) = j' := by simp; omega
          rw [this] at hc'
          exact .inl ⟨el, he, hc'⟩
      · cases he'
    · exact .inl ⟨e', he', hc'⟩
  refine h2'.step H.G (Ext.refl _ _) ?_ h2'.env rfl rfl rfl (fun _ _ hb => .inl hb) (fun _ hb => .inl hb) h2'.pin (fun _ h => h)
  have hi := h2'.inv
  refine ⟨fun q k2 hk2 hr => ?_, fun q k2 b hk2 hr hz => ?_, fun q k2 b hk2 hr hz => ?_, hi.inj, fun q b hr hs' => ?_, hi.apart, hi.low⟩
  · by_cases e : q = id
    · subst e
      have h0 := hi.nil q k hk3 hr
      rw [h0] at he; simp at he
    · rw [updS_ne _ _ _ _ e] at hk2; exact hi.nil q k2 hk2 hr
  · by_cases e : q = id
    · subst e; simp at hk2; subst hk2; exact absurd hz hkz
    · rw [updS_ne _ _ _ _ e] at hk2; exact hi.map q k2 b hk2 hr hz
  · by_cases e : q = id
    · subst e; simp at hk2; subst hk2
      obtain ⟨cur, hb, hl, hs, hcc⟩ := hi.blk q k b hk3 hr hkz
      refine ⟨cur, hb, fun v hv => ?_, by simpa using hs, fun i' e' j' c he' hc' => ?_⟩
      · obtain ⟨v0, h0, h1⟩ := hels v hv
        rw [h1]; exact hl v0 h0
      · rcases hcell i' e' j' c he' hc' with ⟨e0, h0, h1⟩ | ⟨rfl, rfl, rfl⟩
        · exact hcc i' e0 j' c h0 h1
        · obtain ⟨x, hx, h1, hr'⟩ := hcc i' el j' _ he hc
          have := hr'.v_inv
          subst this
          exact ⟨_, hx, h1, hown w⟩
    · rw [updS_ne _ _ _ _ e] at hk2; exact hi.blk q k2 b hk2 hr hz
  · by_cases e : q = id
    · subst e; simp at hs'
    · rw [updS_ne _ _ _ _ e] at hs'; exact hi.live q b hr hs'
theorem reg_mk {S : Sp} (hY : YMono S) {id : Nat} {ops : Array Oper} {draw : Bool} {Q : Exit → Env → Store → Prop} {E : Env} {σ : Store} (h : regC S draw ops (Q .normal) E σ)
    (hfit : codeQ S.P S.N noBad (.region id ops draw) = true := by kernel_rfl) : semC S (.region id ops draw) Q E σ := by
  intro C H n R hR a w ⟨ρ, Im, M, hw⟩
  have hok := codeOK_of _ hfit
  simp only [codeOK, Bool.and_eq_true, Bool.or_eq_true, Bool.not_eq_true', Bool.or_false, Bool.false_or, noBad, Bool.false_eq_true, false_or] at hok
  have hall : ∀ (i : Nat) (o : Oper), ops[i]? = some o → Oper.fits S.P S.N o = true := fun i o ho => List.all_eq_true.1 hok.1 o (Array.mem_toList_iff.2 (Array.mem_of_getElem? ho))
  unfold regC at h
  rw [struckC_eq] at h
  have hv := struck_mono (fun _ _ hk => opsC_of hY _ 0 (fun _ _ h => h) hk) _ _ h
  have hs : St C E σ a w := ⟨_, _, _, hw⟩
  cases draw with
  | false =>
    simp only [struck, Bool.false_eq_true, if_false] at hv
    refine wpIn_region ?_
    have := awpOps_sound H hall (n := n) (Q := R) (fun E σ a w hk hs => hR .normal E σ a w hk hs) ops.toList 0 _ _ a w (by simp) hv hs
    rw [Array.length_toList, ← List.range_eq_range'] at this
    exact this
  | true => exact draw_sound H ops hok.1 (by simpa using hok.2) n (Q .normal) R _ _ a w (fun E σ a w hk hs => hR .normal E σ a w hk hs) hv hs id
end Go.Vai
namespace Go.Vai
open Go.RowKit
mutual
def AV.rn (π : Nat → Nat) : AV → AV
  | .own a s i n => .own (π a) s i n
  | .ptr a s i j => .ptr (π a) s i j
  | .mref a => .mref (π a)
  | .agg cs => .agg (AV.rnL π cs)
  | .tup cs => .tup (AV.rnL π cs)
  | .clo g cs => .clo g (AV.rnL π cs)
  | a => a
def AV.rnL (π : Nat → Nat) : List AV → List AV
  | [] => []
  | c :: cs => AV.rn π c :: AV.rnL π cs
end
theorem rnL_eq (π : Nat → Nat) : ∀ cs : List AV, AV.rnL π cs = cs.map (AV.rn π)
  | [] => rfl
  | c :: cs => by rw [AV.rnL, rnL_eq π cs]; rfl
theorem rn_cells (π : Nat → Nat) (e : AV) : (AV.rn π e).cells = e.cells.map (AV.rn π) := by
  cases e <;> simp [AV.rn, AV.cells, rnL_eq]
mutual
theorem AV.rn_free (π : Nat → Nat) : ∀ a : AV, AV.namesB allB a = false → AV.rn π a = a
  | .own .., h => by simp [AV.namesB, allB] at h
  | .ptr .., h => by simp [AV.namesB, allB] at h
  | .mref .., h => by simp [AV.namesB, allB] at h
  | .agg cs, h => by rw [AV.rn, AV.rnL_free π cs h]
  | .tup cs, h => by rw [AV.rn, AV.rnL_free π cs h]
  | .clo g cs, h => by rw [AV.rn, AV.rnL_free π cs h]
  | .any, _ => rfl
  | .v .., _ => rfl
  | .sl .., _ => rfl
  | .cut .., _ => rfl
  | .pt .., _ => rfl
  | .new .., _ => rfl
  | .nptr .., _ => rfl
  | .yld .., _ => rfl
  | .mp .., _ => rfl
theorem AV.rnL_free (π : Nat → Nat) : ∀ cs : List AV, AV.namesL allB cs = false → AV.rnL π cs = cs
  | [], _ => rfl
  | c :: cs, h => by
    simp only [AV.namesL, Bool.or_eq_false_iff] at h
    rw [AV.rnL, AV.rn_free π c h.1, AV.rnL_free π cs h.2]
end
def Blk.rn (π : Nat → Nat) (k : Blk) : Blk := ⟨k.e, k.sz, AV.rnL π k.es⟩
section
variable {w : World} {ρ : Nat → Option Nat} {Im : Nat → Prop} {π : Nat → Nat}
theorem IRep.rn {a : AV} {y : Value} (h : IRep w Im a y) : IRep w Im (AV.rn π a) y := by
  induction h with
  | any y => exact .any y
  | v x => exact .v x
  | agg cs ys hl h1 _ ih =>
    rw [AV.rn, rnL_eq]
    refine .agg _ ys (by simpa using hl) h1 fun j c y hc hy => ?_
    rw [List.getElem?_map] at hc
    obtain ⟨c0, h0, rfl⟩ := Option.map_eq_some_iff.1 hc
    exact ih j c0 y h0 hy
  | slnil sz a cap => exact .slnil ..
  | cut sz es a h ih => exact .cut sz es a h
  | sl sz es b o cap f hIm hcap hsz hcc hh ih => exact .sl sz es b o cap f hIm hcap hsz hcc hh
  | pt e j b o f hIm hcc hh ih => exact .pt e j b o f hIm hcc hh
  | tup vs ys hl _ ih =>
    rw [AV.rn, rnL_eq]
    refine .tup _ ys (by simpa using hl) fun j c y hc hy => ?_
    rw [List.getElem?_map] at hc
    obtain ⟨c0, h0, rfl⟩ := Option.map_eq_some_iff.1 hc
    exact ih j c0 y h0 hy
  | clo g caps ys hl _ ih =>
    rw [AV.rn, rnL_eq]
    refine .clo g _ ys (by simpa using hl) fun j c y hc hy => ?_
    rw [List.getElem?_map] at hc
    obtain ⟨c0, h0, rfl⟩ := Option.map_eq_some_iff.1 hc
    exact ih j c0 y h0 hy
  | yld l => exact .yld l
  | mpnil => exact .mpnil
  | mp es b ents clk f hIm hbb hl hes hh ih => exact .mp es b ents clk f hIm hbb hl hes hh
theorem Rep.rn (hπ : ∀ i, π (π i) = i) {a : AV} {y : Value} (h : Rep w ρ Im a y) : Rep w (fun i => ρ (π i)) Im (AV.rn π a) y := by
  induction h with
  | im a y h => exact .im _ y h.rn
  | agg cs ys hl h1 _ ih =>
    rw [AV.rn, rnL_eq]
    refine .agg _ ys (by simpa using hl) h1 fun j c y hc hy => ?_
    rw [List.getElem?_map] at hc
    obtain ⟨c0, h0, rfl⟩ := Option.map_eq_some_iff.1 hc
    exact ih j c0 y h0 hy
  | tup cs ys hl _ ih =>
    rw [AV.rn, rnL_eq]
    refine .tup _ ys (by simpa using hl) fun j c y hc hy => ?_
    rw [List.getElem?_map] at hc
    obtain ⟨c0, h0, rfl⟩ := Option.map_eq_some_iff.1 hc
    exact ih j c0 y h0 hy
  | clo g cs ys hl _ ih =>
    rw [AV.rn, rnL_eq]
    refine .clo g _ ys (by simpa using hl) fun j c y hc hy => ?_
    rw [List.getElem?_map] at hc
    obtain ⟨c0, h0, rfl⟩ := Option.map_eq_some_iff.1 hc
    exact ih j c0 y h0 hy
  | ownNil id sz h => exact .ownNil _ sz (by simp only [hπ]; exact h)
  | own id sz n b cap cur e hr hn hcap hb hsz hz => exact .own _ sz n b cap cur e (by simp only [hπ]; exact hr) hn hcap hb hsz hz
  | ownAt id sz i n b cap a hi hr hn ha hz => exact .ownAt _ sz i n b cap a hi (by simp only [hπ]; exact hr) hn ha hz
  | ptr id sz i j b hr hz => exact .ptr _ sz i j b (by simp only [hπ]; exact hr) hz
  | mref id b hr => exact .mref _ b (by simp only [hπ]; exact hr)
theorem Inv.rn {σ : Store} (hπ : ∀ i, π (π i) = i) (h : Inv w ρ Im σ) : Inv w (fun i => ρ (π i)) Im (fun i => (σ (π i)).map (Blk.rn π)) := by
  refine ⟨fun id k hk hr => ?_, fun id k b hk hr hz => ?_, fun id k b hk hr hz => ?_, fun i j b h1 h2 => ?_, fun id b hr hs => ?_, fun id b hr => h.apart _ b hr, h.low⟩
  · obtain ⟨k0, h0, rfl⟩ := Option.map_eq_some_iff.1 hk
    have := h.nil _ k0 h0 hr
    simp [Blk.rn, this, AV.rnL]
  · obtain ⟨k0, h0, rfl⟩ := Option.map_eq_some_iff.1 hk
    obtain ⟨ents, clk, hb, hl, hc⟩ := h.map _ k0 b h0 hr hz
    refine ⟨ents, clk, hb, by simpa [Blk.rn, rnL_eq] using hl, fun i m hm => ?_⟩
    obtain ⟨v, hv, hr'⟩ := hc i m hm
    refine ⟨AV.rn π v, ?_, hr'.rn hπ⟩
    simp only [Blk.rn, rnL_eq, List.getElem?_map, hv, Option.map_some, AV.rn, AV.rnL]
    try rfl
  · obtain ⟨k0, h0, rfl⟩ := Option.map_eq_some_iff.1 hk
    obtain ⟨cur, hb, hl, hs, hc⟩ := h.blk _ k0 b h0 hr hz
    refine ⟨cur, hb, fun e he => ?_, by simpa [Blk.rn, rnL_eq] using hs, fun i e j c he hc' => ?_⟩
    · simp only [Blk.rn, rnL_eq] at he
      obtain ⟨e0, h1, rfl⟩ := List.mem_map.1 he
      rw [rn_cells, List.length_map]; exact hl e0 h1
    · simp only [Blk.rn, rnL_eq, List.getElem?_map] at he
      obtain ⟨e0, h1, rfl⟩ := Option.map_eq_some_iff.1 he
      rw [rn_cells, List.getElem?_map] at hc'
      obtain ⟨c0, h2, rfl⟩ := Option.map_eq_some_iff.1 hc'
      obtain ⟨x, hx, h3, hr'⟩ := hc i e0 j c0 h1 h2
      exact ⟨x, hx, h3, hr'.rn hπ⟩
  · have := h.inj _ _ b h1 h2
    have e := congrArg π this
    rwa [hπ, hπ] at e
  · simp only [Option.map_eq_none_iff] at hs
    exact h.live _ b hr hs
end
theorem Wit.rn {S : Sp} {C : Fx} {E : Env} {σ : Store} {a : Act} {w : World} {ρ : Nat → Option Nat} {Im : Nat → Prop} {M : Str} (H : Holds S C) (h : Wit C E σ a w ρ Im M) (π : Nat → Nat) (hπ : ∀ i, π (π i) = i) (hm : ∀ i, π i ≠ i → S.old i = false ∧ S.pin i = false) :
    Wit C (fun t => AV.rn π (E t)) (fun i => (σ (π i)).map (Blk.rn π)) a w (fun i => ρ (π i)) Im M := by
  have hfree : AV.rn π (E C.N) = E C.N := AV.rn_free π _ (h.gh allB)
  refine ⟨h.inv.rn hπ, fun t y hy => (h.env t y hy).rn hπ, h.size, h.ext, fun id b hb => ?_, h.im, fun p => ?_, ?_, h.js, fun b hb => ?_, h.rd, h.nodup, h.df, fun b hb => ?_, fun id ob hp => ?_, h.j0⟩
  · rcases h.rng _ b hb with ⟨h1, h2⟩ | h1
    · have ho := H.fz _ b h1 h2
      have hid : π id = id := by
        by_cases e : π (π id) = π id
        · rwa [hπ, eq_comm] at e
        · have := (hm _ e).1; rw [ho] at this; cases this
      rw [hid] at h2
      exact .inl ⟨h1, h2⟩
    · exact .inr h1
  · show AV.namesB p (AV.rn π (E C.N)) = false
    rw [hfree]; exact h.gh p
  · show C.G (AV.rn π (E C.N)) M w
    rw [hfree]; exact h.g
  · obtain ⟨h1, h2, h3, h4⟩ := h.ms b hb
    exact ⟨h1, fun id => h2 _, h3, h4⟩
  · obtain ⟨h1, h2, h3⟩ := h.bk b hb
    exact ⟨fun id => h1 _, h2, h3⟩
  · have hpn := H.pin id ob hp
    have hid : π id = id := by
      by_cases e : π id = id
      · exact e
      · have := (hm _ e).2; rw [hpn] at this; cases this
    show ρ (π id) = ob
    rw [hid]; exact h.pin id ob hp
def swp (x y i : Nat) : Nat := if i = x then y else if i = y then x else i
@[go_sem] theorem swp_eq (x y i : Nat) : swp x y i = if i = x then y else if i = y then x else i := rfl
@[go_sem] theorem frz_agg (L p : Nat → Bool) (σ : Store) (cs : List AV) : frz L p σ (.agg cs) = if AV.namesB (notI L) (.agg cs) = false then .agg cs else res (killS p (killS L σ)) (((AV.agg cs).kill L).kill p) := rfl
section
variable (π : Nat → Nat)
@[go_sem] theorem rn_v (x : Value) : AV.rn π (.v x) = .v x := rfl
@[go_sem] theorem rn_sl (s : Nat) (es : List AV) : AV.rn π (.sl s es) = .sl s es := rfl
@[go_sem] theorem rn_pt (e : AV) (j : Nat) : AV.rn π (.pt e j) = .pt e j := rfl
@[go_sem] theorem rn_any : AV.rn π .any = .any := rfl
@[go_sem] theorem rn_own (a s i n : Nat) : AV.rn π (.own a s i n) = .own (π a) s i n := rfl
@[go_sem] theorem rn_ptr (a s i j : Nat) : AV.rn π (.ptr a s i j) = .ptr (π a) s i j := rfl
@[go_sem] theorem rn_agg (cs : List AV) : AV.rn π (.agg cs) = .agg (AV.rnL π cs) := rfl
@[go_sem] theorem rnL_nil : AV.rnL π [] = [] := rfl
@[go_sem] theorem rnL_cons (c : AV) (cs : List AV) : AV.rnL π (c :: cs) = AV.rn π c :: AV.rnL π cs := rfl
@[go_sem] theorem rn_blk (e : TypeId) (s : Nat) (es : List AV) : Blk.rn π ⟨e, s, es⟩ = ⟨e, s, AV.rnL π es⟩ := rfl
end
end Go.Vai
namespace Go.Vai
end Go.Vai
namespace Go.Vai
end Go.Vai
namespace Go.Vai
open Go.RowKit
section
variable {S : Sp} {C : Fx} {E : Env} {σ : Store} {a : Act} {w : World} {ρ : Nat → Option Nat} {Im : Nat → Prop} {M : Str}
end
section
variable {S : Sp} {kd bi : Bool} {dst : Option Nat} {ty t : TypeId} {K Kb : Env → Store → Prop} {E : Env} {σ : Store}
@[go_sem ↓] theorem aop_range (x : Operand) : aopC S kd bi dst (.range t x) ty K Kb E σ = semD S dst (.range t x) ty Kb E σ := rfl
@[go_sem ↓] theorem aop_next (x : Operand) (c : Bool) : aopC S kd bi dst (.next x c) ty K Kb E σ = semD S dst (.next x c) ty Kb E σ := rfl
@[go_sem ↓] theorem aop_entry (x : Operand) : aopC S kd bi dst (.entry x) ty K Kb E σ = semD S dst (.entry x) ty Kb E σ := rfl
@[go_sem] theorem cls_range (P : Program) (x : Operand) : cls P (.range t x) ty = 5 := rfl
@[go_sem] theorem cls_next (P : Program) (x : Operand) (c : Bool) : cls P (.next x c) ty = 5 := rfl
@[go_sem] theorem cls_entry (P : Program) (x : Operand) : cls P (.entry x) ty = 5 := rfl
end
def spI (P : Program) (f : FuncId) (N : Nat) (bad : List Nat) : Sp := { P, N, b := 131072 * (f + 1), pin := fun _ => false, yl := 0, Y := fun _ _ _ => False, bad := inI bad, old := fun _ => false, itf := true }
instance (P : Program) (f N : Nat) (bad : List Nat) : Plain (spI P f N bad) := ⟨fun _ _ _ _ _ hk => (show False from hk).elim⟩
section
variable (P : Program) (f N : Nat) (bad : List Nat)
@[go_sem] theorem spI_P : (spI P f N bad).P = P := rfl
@[go_sem] theorem spI_b : (spI P f N bad).b = 131072 * (f + 1) := rfl
@[go_sem] theorem spI_N : (spI P f N bad).N = N := rfl
@[go_sem] theorem spI_pin (id : Nat) : (spI P f N bad).pin id = false := rfl
@[go_sem] theorem spI_bad (id : Nat) : (spI P f N bad).bad id = bad.contains id := rfl
@[go_sem] theorem spI_itf : (spI P f N bad).itf = true := rfl
end
end Go.Vai
namespace Go.Vai
open Go.RowKit
@[go_sem] theorem frz_clo (L p : Nat → Bool) (σ : Store) (g : Nat) (cs : List AV) : frz L p σ (.clo g cs) = if AV.namesB (notI L) (.clo g cs) = false then .clo g cs else res (killS p (killS L σ)) (((AV.clo g cs).kill L).kill p) := rfl
@[go_sem] theorem oneCell_nilFunc : Value.nilFunc.oneCell' = true := rfl
end Go.Vai
namespace Go.Vai
open Go.RowKit
end Go.Vai
namespace Go.Vai
open Go.RowKit
end Go.Vai
namespace Go.Vai
open Go.RowKit
variable {S : Sp} {dst : Option Nat} {ty : TypeId} {K : Env → Store → Prop} {E : Env} {σ : Store}
section
variable {p : Nat → Bool} {nm q k : Nat → Bool}
@[go_sem] theorem kill_cut (s : Nat) (es : List AV) : AV.kill p (.cut s es) = .cut s es := rfl
@[go_sem] theorem fade_cut (s : Nat) (es : List AV) : fade nm (.cut s es) = .cut s es := rfl
@[go_sem] theorem fd_cut (s : Nat) (es : List AV) : AV.fd q k (.cut s es) = .cut s es := rfl
@[go_sem] theorem res_cut (s : Nat) (es : List AV) : res σ (.cut s es) = .cut s es := rfl
@[go_sem] theorem frz_cut (L p : Nat → Bool) (σ : Store) (s : Nat) (es : List AV) : frz L p σ (.cut s es) = .cut s es := rfl
@[go_sem] theorem frzE_cut (L p : Nat → Bool) (σ : Store) (s : Nat) (es : List AV) : frzE L p σ (.cut s es) = .cut s es := rfl
end
end Go.Vai
namespace Go.Vai
open Go.RowKit
def sortM (l : List Int) : List Int := l.mergeSort fun x y => decide (x ≤ y)
theorem sortM_length (l : List Int) : (sortM l).length = l.length := List.length_mergeSort _
theorem sortM_mem (l : List Int) (x : Int) : x ∈ sortM l ↔ x ∈ l := List.mem_mergeSort
def SortC (P : Program) (f : FuncId) : Prop := ∀ (blk off cap : Nat) (zs : List Int) (w : World), Go.Sort.Holds (Value.int .i64) w blk off zs.toArray → blk < w.heap.size → zs.length < 4611686018427387904 →
  Calls P f #[.slice (some ⟨blk, off, none⟩) zs.length cap] w fun e w' => e = .returned (.tuple #[]) ∧ ∃ n os, w' = Go.Sort.grow (Go.Sort.putRow (Value.int .i64) (Go.Sort.ahead w n) blk off (sortM zs).toArray) os
end Go.Vai
namespace Go.Vai
open Go.RowKit
def CompC (P : Program) (f : FuncId) (cmp : List Int → List Int) : Prop := ∀ (blk off cap : Nat) (zs : List Int) (w : World), Go.Sort.Holds (Value.int .i64) w blk off zs.toArray → zs.length ≤ 9223372036854775807 → zs.length ≤ cap →
  Calls P f #[.slice (some ⟨blk, off, none⟩) zs.length cap] w fun e w' => e = .returned (.slice (some ⟨blk, off, none⟩) (cmp zs).length cap) ∧ ∃ q, w' = Go.Sort.putRow (Value.int .i64) (Go.Sort.ahead w q) blk off (cmp zs ++ List.replicate (zs.length - (cmp zs).length) 0).toArray
def LOKy (P : Program) (f : FuncId) (X : Nat) (e : TypeId) (es R : List Int) (m : Nat) : Prop :=
  (∀ aso w, (callFunc f aso).run P w = .ok (.enter f aso) w) ∧
  ∀ (w : World) (Im : Nat → Prop) (ρ : Nat → Option Nat) (vs : List Value), Inv w ρ Im (stO [(X, ⟨e, 1, es.map fun x => .v (.int .i64 x)⟩)]) → GOK w Im → Reps w ρ Im [.own X 1 0 es.length] vs →
    Calls P f vs.toArray w fun ee w' => ∃ b cap, ρ X = some b ∧ es.length ≤ cap ∧ ee = .returned (.slice (some ⟨b, 0, none⟩) m cap) ∧ Ext w (fun b => ∃ id, ρ id = some b) w' ∧ Inv w' ρ Im (stO [(X, ⟨e, 1, R.map fun x => .v (.int .i64 x)⟩)])
theorem comp_lokY {P : Program} {f : FuncId} {cmp : List Int → List Int} (hent : ∀ aso w, (callFunc f aso).run P w = .ok (.enter f aso) w) (hc : CompC P f cmp) (X : Nat) (e : TypeId) (l : List Int) (hpos : 0 < l.length) (hl : l.length ≤ 1000000) (hle : (cmp l).length ≤ l.length) :
    LOKy P f X e l (cmp l ++ List.replicate (l.length - (cmp l).length) 0) (cmp l).length := by
  obtain ⟨R, hR⟩ : ∃ R, cmp l ++ List.replicate (l.length - (cmp l).length) 0 = R := ⟨_, rfl⟩
  have hRl : R.length = l.length := by rw [← hR]; simp; omega
  rw [hR]
  refine ⟨hent, fun w Im ρ vs hinv _ hvs => ?_⟩
  obtain ⟨hlen, hv⟩ := hvs
  obtain ⟨v, rfl⟩ : ∃ v, vs = [v] := by
    match vs, hlen with
    | [v], _ => exact ⟨v, rfl⟩
  have h1 := hv 0 _ v rfl rfl
  rcases h1.own0_inv with ⟨_, hn, _⟩ | ⟨b, cap, cur0, e', rfl, hρ, hnc, hcap, hb0, hsz0, hnz⟩
  · omega
  obtain ⟨cur, ⟨fr, hb, hmk⟩, hel, hsz, hcell⟩ := hinv.blk X ⟨e, 1, l.map fun x => .v (.int .i64 x)⟩ b (by simp [stO]) hρ Nat.one_ne_zero
  simp only [List.length_map, Nat.mul_one] at hsz
  have hblk : b < w.heap.size := hinv.lt hρ
  have hcur : ∀ j, j < l.length → cur[j]? = some (.int .i64 l[j]!) := fun j hj => by
    obtain ⟨x, hx, _, hr⟩ := hcell j (.v (.int .i64 l[j]!)) 0 (.v (.int .i64 l[j]!)) (by simp [hj]) rfl
    rw [hr.v_inv] at hx
    simpa using hx
  have hH : Go.Sort.Holds (Value.int .i64) w b 0 l.toArray := fun j hj => by
    have hj' : j < l.length := by simpa using hj
    refine ⟨?_, ?_⟩
    · rw [Nat.zero_add, cells_at ⟨fr, hb, hmk⟩, hcur j hj']; simp [hj']
    · rw [Nat.zero_add]; exact mk_free hb hmk (by omega)
  refine (hc b 0 cap l w hH (by omega) hnc).mono ?_
  rintro e2 w' ⟨rfl, n, rfl⟩
  rw [hR]
  have hheap : ∀ k, k < w.heap.size → k ≠ b → (Go.Sort.putRow (Value.int .i64) (Go.Sort.ahead w n) b 0 R.toArray).heap[k]? = w.heap[k]? := fun k hk hne => by
    simp only [Go.Sort.putRow, Go.Sort.mapBlock, Go.Sort.ahead]
    rw [Array.getElem?_modify, if_neg (Ne.symm hne)]
  have hnew : (Go.Sort.putRow (Value.int .i64) (Go.Sort.ahead w n) b 0 R.toArray).heap[b]? = some (.cells (Go.Sort.putCells (Value.int .i64) 0 R.toArray cur) e fr) := by
    simp only [Go.Sort.putRow, Go.Sort.mapBlock, Go.Sort.ahead]
    rw [Array.getElem?_modify, if_pos rfl, hb]; rfl
  have hsize : w.heap.size ≤ (Go.Sort.putRow (Value.int .i64) (Go.Sort.ahead w n) b 0 R.toArray).heap.size := by simp [Go.Sort.putRow, Go.Sort.mapBlock, Go.Sort.ahead]
  have hcs : (Go.Sort.putCells (Value.int .i64) 0 R.toArray cur).size = cur.size := by simp [Go.Sort.putCells]
  have only : ∀ id k, stO [(X, (⟨e, 1, R.map fun x => .v (.int .i64 x)⟩ : Blk))] id = some k → id = X ∧ k = ⟨e, 1, R.map fun x => .v (.int .i64 x)⟩ := fun id k h => by
    have hX := stO_mem h
    simpa using hX
  refine ⟨b, cap, hρ, hnc, rfl, ⟨rfl, rfl, rfl, hsize, fun k hk hX => hheap k hk fun e => hX ⟨X, e ▸ hρ⟩⟩, ?_⟩
  refine ⟨fun id k hk hr => ?_, fun id k b' hk hr h0 => ?_, fun id k b' hk hr h0 => ?_, hinv.inj, fun id b' hr => ?_, hinv.apart, fun b' hI => Nat.lt_of_lt_of_le (hinv.low b' hI) hsize⟩
  · obtain ⟨rfl, rfl⟩ := only id k hk
    rw [hρ] at hr; cases hr
  · obtain ⟨rfl, rfl⟩ := only id k hk
    cases h0
  · obtain ⟨rfl, rfl⟩ := only id k hk
    rw [hρ] at hr; cases hr
    refine ⟨_, ⟨fr, hnew, by rw [hcs]; exact hmk⟩, fun x hx => by obtain ⟨y, _, rfl⟩ := List.mem_map.1 hx; rfl, by simp only [List.length_map, hRl, Nat.mul_one]; rw [hcs]; exact hsz, fun i x j c hx hc => ?_⟩
    rw [List.getElem?_map] at hx
    cases hn : R[i]? with
    | none => simp [hn] at hx
    | some y =>
      simp [hn] at hx; subst hx
      cases j with
      | succ j => simp at hc
      | zero =>
        simp at hc; subst hc
        have hi : i < R.length := (List.getElem?_eq_some_iff.1 hn).1
        have hi2 : i < cur.size := by rw [hRl] at hi; omega
        refine ⟨.int .i64 y, ?_, rfl, .im _ _ (.v _)⟩
        simp only [Go.Sort.putCells, Nat.mul_one, Nat.add_zero, Array.getElem?_mapIdx]
        rw [Array.getElem?_eq_getElem hi2]
        have : R[i] = y := (List.getElem?_eq_some_iff.1 hn).2
        simp [hi, this]
  · have : stO [(X, (⟨e, 1, l.map fun x => .v (.int .i64 x)⟩ : Blk))] id ≠ none := hinv.live id b' hr
    intro h
    apply this
    rw [stO_cons] at h ⊢
    by_cases hX : X = id
    · rw [if_pos hX] at h; cases h
    · rw [if_neg hX]; rfl
theorem lentY_mk {S : Sp} {E : Env} {σ : Store} {K : Env → Store → Prop} {d : Nat} {f : Operand} {args : Array Operand} {ats : Array TypeId} {ty : TypeId} {g : FuncId} (X : Nat) {es R : List Int} {e : TypeId} {m : Nat}
    (hL : LOKy S.P g X e es R m) (hfv : ev E f = .clo g []) (has : args.toList.map (ev E) = [.own X 1 0 es.length]) (hat : σ X = some ⟨e, 1, es.map fun x => .v (.int .i64 x)⟩) (hmR : m ≤ es.length) (hRl : R.length = es.length)
    (hK : K (upd (frE (inI [X]) (addS (killS (own (S.b + d)) (fdS (inI [X]) (movI (inI [X]) (inI [X])) σ (stO [(X, ⟨e, 1, R.map fun x => .v (.int .i64 x)⟩)]))) (imp (16 * (S.b + d)) .any).2) (updO (killE (own (S.b + d)) (fdE (inI [X]) (movI (inI [X]) (inI [X])) E)) (some d) (imp (16 * (S.b + d)) .any).1)) d (.sl 1 ((R.take m).map fun x => .v (.int .i64 x))))
      (frS (inI [X]) (addS (killS (own (S.b + d)) (fdS (inI [X]) (movI (inI [X]) (inI [X])) σ (stO [(X, ⟨e, 1, R.map fun x => .v (.int .i64 x)⟩)]))) (imp (16 * (S.b + d)) .any).2)))
    (hX : (!S.pin X && !S.old X && !Nat.beq (X / 16) (S.b + d)) = true := by kernel_rfl)
    (hfit : ((some d).all (decide <| · < S.N) && Op.low S.N (.call { callee := .value f, args, argTypes := ats }) && decide (d < 100000)) = true := by kernel_rfl) :
    semD S (some d) (.call { callee := .value f, args, argTypes := ats }) ty K E σ := by
  simp only [Bool.and_eq_true, decide_eq_true_eq, Bool.not_eq_true'] at hfit hX
  obtain ⟨⟨hXp, hXo⟩, hXd⟩ := hX
  have hXd : X / 16 ≠ S.b + d := fun e => by rw [e, Nat.beq_refl] at hXd; cases hXd
  have hin : ∀ id, inI [X] id = true ↔ id = X := fun id => by simp [inI]
  have hnl : AV.namesL (notI (inI [X])) (es.map fun x => (.v (.int .i64 x) : AV)) = false := namesL_map _ _ _ fun _ => rfl
  have hnl2 : AV.namesL (notI (inI [X])) (R.map fun x => (.v (.int .i64 x) : AV)) = false := namesL_map _ _ _ fun _ => rfl
  have honly : only (inI [X]) σ = stO [(X, ⟨e, 1, es.map fun x => .v (.int .i64 x)⟩)] := only_stO (l := [(X, ⟨e, 1, es.map fun x => .v (.int .i64 x)⟩)]) ⟨hat, trivial⟩
  intro pos after guard C H n a w Kc Q ⟨ρ, Im, M, h⟩ hKc
  obtain ⟨⟨hdst, hlow⟩, hdd⟩ := hfit
  have htN : d < S.N := by simpa using hdst
  have rep : ∀ x, x ∈ (Op.call { callee := .value f, args, argTypes := ats }).operands → Rep w ρ Im (ev E x) (a.eval x) := fun x hx => ev_rep h.env (by rw [h.size, ← H.N]; exact low_of hlow hx)
  refine ⟨fun _ _ => trivial, ?_⟩
  rw [Oper.semAt_eq _ _ _ (fun c e => by cases e)]
  have hfr := rep f (by simp [Op.operands, Call.operands])
  rw [hfv] at hfr
  obtain ⟨cys, hfy, hcl', hcr⟩ := hfr.clo_inv
  have hargs : ∀ x ∈ args.toList, Rep w ρ Im (ev E x) (a.eval x) := fun x hx => rep x (by simp [Op.operands, Call.operands]; exact Or.inr (Array.mem_toList_iff.1 hx))
  have hcy : cys = [] := List.eq_nil_of_length_eq_zero hcl'.symm
  subst hcy
  have hall : Reps w ρ Im (args.toList.map (ev E)) (args.toList.map a.eval) := by
    refine ⟨by simp, fun j c y hc hy => ?_⟩
    have hj : j < args.toList.length := by
      have := (List.getElem?_eq_some_iff.1 hc).1; simpa using this
    rw [List.getElem?_map] at hc hy
    rw [List.getElem?_eq_getElem hj] at hc hy
    simp at hc hy; subst hc; subst hy
    exact hargs _ (by simp)
  have hallq : Reps w (killR (notI (inI [X])) ρ) Im [.own X 1 0 es.length] (args.toList.map a.eval) := has ▸ ⟨hall.1, fun j c y hc hy => (hall.2 j c y hc hy).killR fun id hid => by
    cases hp : notI (inI [X]) id with
    | false => rfl
    | true =>
      have := (AV.namesL_iff (notI (inI [X])) _).2 ⟨c, List.mem_of_getElem? hc, AV.namesB_of _ hid hp⟩
      rw [has] at this; simp [AV.namesL, AV.namesB, notI, inI] at this⟩
  obtain ⟨henter, hfn⟩ := hL
  have hrun : (execOp a.eval { dst := some d, op := .call { callee := .value f, args, argTypes := ats }, type := ty, pos, after, guard }).run S.P w = .ok (.enter g (args.toList.map a.eval).toArray) w := by
    simp only [execOp, resolve, hfy, Deferred.ofValue, Sem.run_bind, Sem.run_pure, Result.andThen_ok, invoke]
    have e1 : (#[] ++ args.map a.eval ++ ([] : List Value).toArray : Array Value) = (args.toList.map a.eval).toArray := by apply Array.toList_inj.1; simp
    rw [e1]; exact henter _ w
  rw [hrun]
  refine ⟨fun h => by simp [FW] at h, calls_FW ?_⟩
  refine (hfn w Im (killR (notI (inI [X])) ρ) _ (honly ▸ h.inv.only fun id q hid hqq => by
    obtain rfl := (hin id).1 hqq
    rw [hat] at hid; cases hid; exact hnl) (h.gok H) hallq).mono fun ee w' ⟨b, cap, hb, hcap, he, hx, hi⟩ => ?_
  subst he
  have hrr : RR w w' (killR (notI (inI [X])) ρ) Im .any (.slice (some ⟨b, 0, none⟩) m cap) := ⟨none, ⟨rfl, .any _⟩, by simp [FreshR]⟩
  obtain ⟨ρ3, Im3, hw, hρ3⟩ := h.lent (pin := inI [X]) H hx hi (fun _ h => h) (fun _ h => .inl h) (fun _ _ h => .inl h) (fun _ _ => rfl) (fun id q hid => by
    have := stO_mem hid
    simp only [List.mem_singleton, Prod.mk.injEq] at this
    obtain ⟨rfl, rfl⟩ := this
    exact ⟨(hin _).2 rfl, hnl2⟩) (fun id _ hq' => hq') hdd hrr (Nat.le_of_ble_eq_true rfl) (dst := some d) (fun d' hd' => by cases hd'; rw [← H.N]; exact htN)
  have htC : d < C.N := by rw [← H.N]; exact htN
  have hqX : inI [X] X = true := (hin X).2 rfl
  have hb' : killR (notI (inI [X])) ρ X = some b := hb
  have hb3 : ρ3 X = some b := by rw [hρ3 X hXd, if_pos hqX]; exact hb'
  have hf := hw.freeze H (inI [X]) (fun id hid => by
    cases hh : inI [X] id with
    | false => rfl
    | true => obtain rfl := (hin id).1 hh; rw [hid] at hXp; cases hXp) (fun id hid => by
    cases hh : inI [X] id with
    | false => rfl
    | true => obtain rfl := (hin id).1 hh; rw [hid] at hXo; cases hXo)
  have hN : ∀ (E : Env) v, upd E d v C.N = E C.N := fun E v => by unfold upd; rw [if_neg (by omega)]
  refine hKc _ _ _ _ hK ⟨_, _, M, ⟨hf.inv, fun t' y' hy' => ?_, hf.size, hf.ext, hf.rng, hf.im, by rw [hN]; exact hf.gh, by rw [hN]; exact hf.g, hf.js, hf.ms, hf.rd, hf.nodup, hf.df, hf.bk, hf.pin, hf.j0⟩⟩
  unfold upd
  split
  · rename_i ht'
    subst ht'
    have hyy : y' = .slice (some ⟨b, 0, none⟩) m cap := by
      simp only [Act.put] at hy'
      rw [Array.getElem?_setIfInBounds_self_of_lt (by rw [h.size]; exact htC)] at hy'
      exact (Option.some.inj hy').symm
    subst hyy
    obtain ⟨cur, ⟨fr, hc1, _⟩, hc2, hc3, hc4⟩ := hi.blk X ⟨e, 1, R.map fun x => .v (.int .i64 x)⟩ b (by simp [stO]) hb' Nat.one_ne_zero
    have hlen : m = ((R.take m).map fun x => (.v (.int .i64 x) : AV)).length := by simp; omega
    have hcell : ∀ i, i < R.length → cur[i]? = some (.int .i64 (R[i]?.getD 0)) := fun i hi' => by
      obtain ⟨x, g1, g2, g3⟩ := hc4 i (.v (.int .i64 R[i])) 0 (.v (.int .i64 R[i])) (by simp [hi']) rfl
      have := g3.v_inv
      subst this
      simpa [hi'] using g1
    conv => arg 5; rw [hlen]
    refine .im _ _ (.sl 1 _ b 0 cap (fun i _ => .int .i64 (R[i]?.getD 0)) ?_ (by rw [← hlen]; omega) (fun e' he' => ?_) (fun i j hi' hj => ?_) (fun i e' j c he' hc' => ?_))
    · exact .inr ⟨X, by rw [killR_of ρ3 (by simp [notI, hqX])]; exact hb3⟩
    · obtain ⟨x, _, rfl⟩ := List.mem_map.1 he'; rfl
    · obtain rfl : j = 0 := by omega
      have hi' : i < R.length := by rw [← hlen] at hi'; omega
      exact ⟨by simp [World.cell?, hc1, hcell i hi'], rfl⟩
    · rw [List.getElem?_map] at he'
      cases hh : (R.take m)[i]? with
      | none => simp [hh] at he'
      | some x =>
        simp [hh] at he'; subst he'
        cases j with
        | zero =>
          simp at hc'; subst hc'
          rw [List.getElem?_take] at hh
          split at hh
          · rw [hh]; exact .v _
          · cases hh
        | succ j => simp at hc'
  · exact hf.env t' y' hy'
def LOKs (P : Program) (f : FuncId) (X : Nat) (e : TypeId) (es R : List Int) : Prop :=
  (∀ aso w, (callFunc f aso).run P w = .ok (.enter f aso) w) ∧
  ∀ (w : World) (Im : Nat → Prop) (ρ : Nat → Option Nat) (vs : List Value), Inv w ρ Im (stO [(X, ⟨e, 1, es.map fun x => .v (.int .i64 x)⟩)]) → GOK w Im → Reps w ρ Im [.own X 1 0 es.length] vs →
    Calls P f vs.toArray w fun ee w' => ee = .returned (.tuple #[]) ∧ Ext w (fun b => ∃ id, ρ id = some b) w' ∧ Inv w' ρ Im (stO [(X, ⟨e, 1, R.map fun x => .v (.int .i64 x)⟩)]) ∧ ∀ b, ρ X = some b → Shape w w' b
theorem sort_lokS {P : Program} {f : FuncId} (hent : ∀ aso w, (callFunc f aso).run P w = .ok (.enter f aso) w) (hc : SortC P f) (X : Nat) (e : TypeId) (l : List Int) (hpos : 0 < l.length) (hl : l.length ≤ 1000000) :
    LOKs P f X e l (sortM l) := by
  refine ⟨hent, fun w Im ρ vs hinv _ hvs => ?_⟩
  obtain ⟨hlen, hv⟩ := hvs
  obtain ⟨v, rfl⟩ : ∃ v, vs = [v] := by
    match vs, hlen with
    | [v], _ => exact ⟨v, rfl⟩
  have h1 := hv 0 _ v rfl rfl
  rcases h1.own0_inv with ⟨_, hn, _⟩ | ⟨b, cap, cur0, e', rfl, hρ, hnc, hcap, hb0, hsz0, hnz⟩
  · omega
  obtain ⟨cur, ⟨fr, hb, hmk⟩, hel, hsz, hcell⟩ := hinv.blk X ⟨e, 1, l.map fun x => .v (.int .i64 x)⟩ b (by simp [stO]) hρ Nat.one_ne_zero
  simp only [List.length_map, Nat.mul_one] at hsz
  have hblk : b < w.heap.size := hinv.lt hρ
  have hcur : ∀ j, j < l.length → cur[j]? = some (.int .i64 l[j]!) := fun j hj => by
    obtain ⟨x, hx, _, hr⟩ := hcell j (.v (.int .i64 l[j]!)) 0 (.v (.int .i64 l[j]!)) (by simp [hj]) rfl
    rw [hr.v_inv] at hx
    simpa using hx
  have hH : Go.Sort.Holds (Value.int .i64) w b 0 l.toArray := fun j hj => by
    have hj' : j < l.length := by simpa using hj
    refine ⟨?_, ?_⟩
    · rw [Nat.zero_add, cells_at ⟨fr, hb, hmk⟩, hcur j hj']; simp [hj']
    · rw [Nat.zero_add]; exact mk_free hb hmk (by omega)
  refine (hc b 0 cap l w hH hblk (by omega)).mono ?_
  rintro e2 w' ⟨rfl, n, os, rfl⟩
  have hheap : ∀ k, k < w.heap.size → k ≠ b → (Go.Sort.grow (Go.Sort.putRow (Value.int .i64) (Go.Sort.ahead w n) b 0 (sortM l).toArray) os).heap[k]? = w.heap[k]? := fun k hk hne => by
    simp only [Go.Sort.grow, Go.Sort.putRow, Go.Sort.mapBlock, Go.Sort.ahead]
    rw [Array.getElem?_append_left (by simpa using hk), Array.getElem?_modify, if_neg (Ne.symm hne)]
  have hnew : (Go.Sort.grow (Go.Sort.putRow (Value.int .i64) (Go.Sort.ahead w n) b 0 (sortM l).toArray) os).heap[b]? = some (.cells (Go.Sort.putCells (Value.int .i64) 0 (sortM l).toArray cur) e fr) := by
    simp only [Go.Sort.grow, Go.Sort.putRow, Go.Sort.mapBlock, Go.Sort.ahead]
    rw [Array.getElem?_append_left (by simpa using hblk), Array.getElem?_modify, if_pos rfl, hb]; rfl
  have hsize : w.heap.size ≤ (Go.Sort.grow (Go.Sort.putRow (Value.int .i64) (Go.Sort.ahead w n) b 0 (sortM l).toArray) os).heap.size := by simp [Go.Sort.grow, Go.Sort.putRow, Go.Sort.mapBlock, Go.Sort.ahead]
  have hcs : (Go.Sort.putCells (Value.int .i64) 0 (sortM l).toArray cur).size = cur.size := by simp [Go.Sort.putCells]
  have only : ∀ id k, stO [(X, (⟨e, 1, (sortM l).map fun x => .v (.int .i64 x)⟩ : Blk))] id = some k → id = X ∧ k = ⟨e, 1, (sortM l).map fun x => .v (.int .i64 x)⟩ := fun id k h => by
    have hX := stO_mem h
    simpa using hX
  refine ⟨rfl, ⟨rfl, rfl, rfl, hsize, fun k hk hX => hheap k hk fun e => hX ⟨X, e ▸ hρ⟩⟩, ?_, fun b1 hb1 cur1 e1 hc1 => ?_⟩
  · refine ⟨fun id k hk hr => ?_, fun id k b' hk hr h0 => ?_, fun id k b' hk hr h0 => ?_, hinv.inj, fun id b' hr => ?_, hinv.apart, fun b' hI => Nat.lt_of_lt_of_le (hinv.low b' hI) hsize⟩
    · obtain ⟨rfl, rfl⟩ := only id k hk
      rw [hρ] at hr; cases hr
    · obtain ⟨rfl, rfl⟩ := only id k hk
      cases h0
    · obtain ⟨rfl, rfl⟩ := only id k hk
      rw [hρ] at hr; cases hr
      refine ⟨_, ⟨fr, hnew, by rw [hcs]; exact hmk⟩, fun x hx => by obtain ⟨y, _, rfl⟩ := List.mem_map.1 hx; rfl, by simp only [List.length_map, sortM_length, Nat.mul_one]; rw [hcs]; exact hsz, fun i x j c hx hc => ?_⟩
      rw [List.getElem?_map] at hx
      cases hn : (sortM l)[i]? with
      | none => simp [hn] at hx
      | some y =>
        simp [hn] at hx; subst hx
        cases j with
        | succ j => simp at hc
        | zero =>
          simp at hc; subst hc
          have hi : i < (sortM l).length := (List.getElem?_eq_some_iff.1 hn).1
          have hi2 : i < cur.size := by rw [sortM_length] at hi; omega
          refine ⟨.int .i64 y, ?_, rfl, .im _ _ (.v _)⟩
          simp only [Go.Sort.putCells, Nat.mul_one, Nat.add_zero, Array.getElem?_mapIdx]
          rw [Array.getElem?_eq_getElem hi2]
          have : (sortM l)[i] = y := (List.getElem?_eq_some_iff.1 hn).2
          simp [hi, this]
    · have : stO [(X, (⟨e, 1, l.map fun x => .v (.int .i64 x)⟩ : Blk))] id ≠ none := hinv.live id b' hr
      intro h
      apply this
      rw [stO_cons] at h ⊢
      by_cases hX : X = id
      · rw [if_pos hX] at h; cases h
      · rw [if_neg hX]; rfl
  · rw [hρ] at hb1; cases hb1
    obtain ⟨fr1, h1', h2'⟩ := hc1
    rw [hb] at h1'; cases h1'
    exact ⟨_, ⟨fr, hnew, by rw [hcs]; exact h2'⟩, hcs⟩
theorem lentS_mk {S : Sp} {E : Env} {σ : Store} {K : Env → Store → Prop} {d : Nat} {f : Operand} {args : Array Operand} {ats : Array TypeId} {ty : TypeId} {g : FuncId} (X t : Nat) {es R : List Int} {e : TypeId}
    (hL : LOKs S.P g X e es R) (hfv : ev E f = .clo g []) (has : args.toList.map (ev E) = [.own X 1 0 es.length]) (hat : σ X = some ⟨e, 1, es.map fun x => .v (.int .i64 x)⟩) (hE : E t = .own X 1 0 es.length) (hn : 0 < es.length)
    (hK : K (upd (updO (killE (own (S.b + d)) (fdE (inI [X]) (movI (inI [X]) (inI [X])) E)) (some d) (imp (16 * (S.b + d)) (.tup [])).1) t (.own X 1 0 es.length))
      (addS (killS (own (S.b + d)) (fdS (inI [X]) (movI (inI [X]) (inI [X])) σ (stO [(X, ⟨e, 1, R.map fun x => .v (.int .i64 x)⟩)]))) (imp (16 * (S.b + d)) (.tup [])).2))
    (hX : (!Nat.beq (X / 16) (S.b + d) && Nat.blt t S.N && !Nat.beq d t) = true := by kernel_rfl)
    (hfit : ((some d).all (decide <| · < S.N) && Op.low S.N (.call { callee := .value f, args, argTypes := ats }) && decide (d < 100000)) = true := by kernel_rfl) :
    semD S (some d) (.call { callee := .value f, args, argTypes := ats }) ty K E σ := by
  simp only [Bool.and_eq_true, decide_eq_true_eq, Bool.not_eq_true'] at hfit hX
  obtain ⟨⟨hXd, htl⟩, htd⟩ := hX
  have htl : t < S.N := Nat.le_of_ble_eq_true htl
  have htd : d ≠ t := fun e => by rw [e, Nat.beq_refl] at htd; cases htd
  have hXd : X / 16 ≠ S.b + d := fun e => by rw [e, Nat.beq_refl] at hXd; cases hXd
  have hin : ∀ id, inI [X] id = true ↔ id = X := fun id => by simp [inI]
  have hnl : AV.namesL (notI (inI [X])) (es.map fun x => (.v (.int .i64 x) : AV)) = false := namesL_map _ _ _ fun _ => rfl
  have hnl2 : AV.namesL (notI (inI [X])) (R.map fun x => (.v (.int .i64 x) : AV)) = false := namesL_map _ _ _ fun _ => rfl
  have honly : only (inI [X]) σ = stO [(X, ⟨e, 1, es.map fun x => .v (.int .i64 x)⟩)] := only_stO (l := [(X, ⟨e, 1, es.map fun x => .v (.int .i64 x)⟩)]) ⟨hat, trivial⟩
  intro pos after guard C H n a w Kc Q ⟨ρ, Im, M, h⟩ hKc
  obtain ⟨⟨hdst, hlow⟩, hdd⟩ := hfit
  have htN : d < S.N := by simpa using hdst
  have rep : ∀ x, x ∈ (Op.call { callee := .value f, args, argTypes := ats }).operands → Rep w ρ Im (ev E x) (a.eval x) := fun x hx => ev_rep h.env (by rw [h.size, ← H.N]; exact low_of hlow hx)
  refine ⟨fun _ _ => trivial, ?_⟩
  rw [Oper.semAt_eq _ _ _ (fun c e => by cases e)]
  have hfr := rep f (by simp [Op.operands, Call.operands])
  rw [hfv] at hfr
  obtain ⟨cys, hfy, hcl', hcr⟩ := hfr.clo_inv
  have hargs : ∀ x ∈ args.toList, Rep w ρ Im (ev E x) (a.eval x) := fun x hx => rep x (by simp [Op.operands, Call.operands]; exact Or.inr (Array.mem_toList_iff.1 hx))
  have hcy : cys = [] := List.eq_nil_of_length_eq_zero hcl'.symm
  subst hcy
  have hall : Reps w ρ Im (args.toList.map (ev E)) (args.toList.map a.eval) := by
    refine ⟨by simp, fun j c y hc hy => ?_⟩
    have hj : j < args.toList.length := by
      have := (List.getElem?_eq_some_iff.1 hc).1; simpa using this
    rw [List.getElem?_map] at hc hy
    rw [List.getElem?_eq_getElem hj] at hc hy
    simp at hc hy; subst hc; subst hy
    exact hargs _ (by simp)
  have hallq : Reps w (killR (notI (inI [X])) ρ) Im [.own X 1 0 es.length] (args.toList.map a.eval) := has ▸ ⟨hall.1, fun j c y hc hy => (hall.2 j c y hc hy).killR fun id hid => by
    cases hp : notI (inI [X]) id with
    | false => rfl
    | true =>
      have := (AV.namesL_iff (notI (inI [X])) _).2 ⟨c, List.mem_of_getElem? hc, AV.namesB_of _ hid hp⟩
      rw [has] at this; simp [AV.namesL, AV.namesB, notI, inI] at this⟩
  obtain ⟨henter, hfn⟩ := hL
  have hrun : (execOp a.eval { dst := some d, op := .call { callee := .value f, args, argTypes := ats }, type := ty, pos, after, guard }).run S.P w = .ok (.enter g (args.toList.map a.eval).toArray) w := by
    simp only [execOp, resolve, hfy, Deferred.ofValue, Sem.run_bind, Sem.run_pure, Result.andThen_ok, invoke]
    have e1 : (#[] ++ args.map a.eval ++ ([] : List Value).toArray : Array Value) = (args.toList.map a.eval).toArray := by apply Array.toList_inj.1; simp
    rw [e1]; exact henter _ w
  rw [hrun]
  refine ⟨fun h => by simp [FW] at h, calls_FW ?_⟩
  refine (hfn w Im (killR (notI (inI [X])) ρ) _ (honly ▸ h.inv.only fun id q hid hqq => by
    obtain rfl := (hin id).1 hqq
    rw [hat] at hid; cases hid; exact hnl) (h.gok H) hallq).mono fun ee w' ⟨he, hx, hi, hsh⟩ => ?_
  subst he
  have hrr : RR w w' (killR (notI (inI [X])) ρ) Im (.tup []) (.tuple #[]) := ⟨[], [], rfl, trivial, by simp [FreshR]⟩
  obtain ⟨ρ3, Im3, hw, hρ3⟩ := h.lent (pin := inI [X]) H hx hi (fun _ h => h) (fun _ h => .inl h) (fun _ _ h => .inl h) (fun _ _ => rfl) (fun id q hid => by
    have := stO_mem hid
    simp only [List.mem_singleton, Prod.mk.injEq] at this
    obtain ⟨rfl, rfl⟩ := this
    exact ⟨(hin _).2 rfl, hnl2⟩) (fun id _ hq' => hq') hdd hrr (Nat.le_of_ble_eq_true rfl) (dst := some d) (fun d' hd' => by cases hd'; rw [← H.N]; exact htN)
  have htC : d < C.N := by rw [← H.N]; exact htN
  have hqX : inI [X] X = true := (hin X).2 rfl
  have htC2 : t < C.N := by rw [← H.N]; exact htl
  have hN : ∀ (E : Env) v, upd E t v C.N = E C.N := fun E v => by unfold upd; rw [if_neg (by omega)]
  obtain ⟨y0, hy0⟩ : ∃ y0, a.tmps[t]? = some y0 := ⟨_, Array.getElem?_eq_getElem (by rw [h.size]; exact htC2)⟩
  have hr0 := h.env t y0 hy0
  rw [hE] at hr0
  refine hKc _ _ _ _ hK ⟨_, _, M, ⟨hw.inv, fun t' y' hy' => ?_, hw.size, hw.ext, hw.rng, hw.im, by rw [hN]; exact hw.gh, by rw [hN]; exact hw.g, hw.js, hw.ms, hw.rd, hw.nodup, hw.df, hw.bk, hw.pin, hw.j0⟩⟩
  unfold upd
  split
  · rename_i ht'
    subst ht'
    have hyy : y' = y0 := by
      simp only [Act.put] at hy'
      rw [Array.getElem?_setIfInBounds_ne htd] at hy'
      rw [hy0] at hy'; exact (Option.some.inj hy').symm
    subst hyy
    rcases hr0.own0_inv with ⟨_, hz, _⟩ | ⟨b, cap, cur, e', rfl, hb, hnc, hcap, hb0, hsz, hnz⟩
    · omega
    have hb' : killR (notI (inI [X])) ρ X = some b := by rw [killR_of ρ (by simp [notI, hqX])]; exact hb
    obtain ⟨cur', hc', hs'⟩ := hsh b hb' cur e' hb0
    have hb3 : ρ3 X = some b := by rw [hρ3 X hXd, if_pos hqX]; exact hb'
    exact .own X 1 _ b cap cur' e' hb3 hnc hcap hc' (by rw [hs']; exact hsz) hnz
  · exact hw.env t' y' hy'
end Go.Vai
set_option maxRecDepth 100000
namespace Go.Proofs.Ytcllccpeechdhaa
open Go.Vai Go Go.Proofs
@[go_sem] theorem tund_0 : tund Try.prog 0 = true := by kernel_rfl
@[go_sem] theorem tsz_0 : tsz Try.prog 0 = 1 := by kernel_rfl
@[go_sem] theorem tel_0 : tel Try.prog 0 = (none : Option TypeId) := by kernel_rfl
@[go_sem] theorem tarr_0 : tarr Try.prog 0 = (none : Option (Nat × TypeId)) := by kernel_rfl
@[go_sem] theorem tfld_0 : tfld Try.prog 0 = (none : Option (List (Nat × TypeId))) := by kernel_rfl
@[go_sem] theorem tint_0 : tint Try.prog 0 = (none : Option IntKind) := by kernel_rfl
@[go_sem] theorem tstr_0 : tstr Try.prog 0 = false := by kernel_rfl
@[go_sem] theorem tagg_0 : tagg Try.prog 0 = (some false : Option Bool) := by kernel_rfl
@[go_sem] theorem tby_0 : tby Try.prog 0 = 0 := by kernel_rfl
@[go_sem] theorem tkind_0 : tkind Try.prog 0 = (none : Option Nat) := by kernel_rfl
@[go_sem] theorem teq_0 : teq Try.prog 0 = (none : Option (List Nat)) := by kernel_rfl
@[go_sem] theorem tpt_0 : tpt Try.prog 0 = false := by kernel_rfl
@[go_sem] theorem tzA_0 : tzA Try.prog 0 = (some (AV.tup []) : Option AV) := by kernel_rfl
@[go_sem] theorem tund_1 : tund Try.prog 1 = true := by kernel_rfl
@[go_sem] theorem tsz_1 : tsz Try.prog 1 = 1 := by kernel_rfl
@[go_sem] theorem tel_1 : tel Try.prog 1 = (none : Option TypeId) := by kernel_rfl
@[go_sem] theorem tarr_1 : tarr Try.prog 1 = (none : Option (Nat × TypeId)) := by kernel_rfl
@[go_sem] theorem tfld_1 : tfld Try.prog 1 = (none : Option (List (Nat × TypeId))) := by kernel_rfl
@[go_sem] theorem tint_1 : tint Try.prog 1 = (none : Option IntKind) := by kernel_rfl
@[go_sem] theorem tstr_1 : tstr Try.prog 1 = false := by kernel_rfl
@[go_sem] theorem tagg_1 : tagg Try.prog 1 = (some false : Option Bool) := by kernel_rfl
@[go_sem] theorem tby_1 : tby Try.prog 1 = 8 := by kernel_rfl
@[go_sem] theorem tkind_1 : tkind Try.prog 1 = (none : Option Nat) := by kernel_rfl
@[go_sem] theorem teq_1 : teq Try.prog 1 = (none : Option (List Nat)) := by kernel_rfl
@[go_sem] theorem tpt_1 : tpt Try.prog 1 = false := by kernel_rfl
@[go_sem] theorem tzA_1 : tzA Try.prog 1 = (some (AV.v Value.nilFunc) : Option AV) := by kernel_rfl
@[go_sem] theorem tund_2 : tund Try.prog 2 = true := by kernel_rfl
@[go_sem] theorem tsz_2 : tsz Try.prog 2 = 1 := by kernel_rfl
@[go_sem] theorem tel_2 : tel Try.prog 2 = (none : Option TypeId) := by kernel_rfl
@[go_sem] theorem tarr_2 : tarr Try.prog 2 = (none : Option (Nat × TypeId)) := by kernel_rfl
@[go_sem] theorem tfld_2 : tfld Try.prog 2 = (none : Option (List (Nat × TypeId))) := by kernel_rfl
@[go_sem] theorem tint_2 : tint Try.prog 2 = (some IntKind.i64 : Option IntKind) := by kernel_rfl
@[go_sem] theorem tstr_2 : tstr Try.prog 2 = false := by kernel_rfl
@[go_sem] theorem tagg_2 : tagg Try.prog 2 = (some false : Option Bool) := by kernel_rfl
@[go_sem] theorem tby_2 : tby Try.prog 2 = 8 := by kernel_rfl
@[go_sem] theorem tkind_2 : tkind Try.prog 2 = (some 0 : Option Nat) := by kernel_rfl
@[go_sem] theorem teq_2 : teq Try.prog 2 = (none : Option (List Nat)) := by kernel_rfl
@[go_sem] theorem tpt_2 : tpt Try.prog 2 = false := by kernel_rfl
@[go_sem] theorem tzA_2 : tzA Try.prog 2 = (some (AV.v (Value.int IntKind.i64 (0))) : Option AV) := by kernel_rfl
@[go_sem] theorem tund_3 : tund Try.prog 3 = true := by kernel_rfl
@[go_sem] theorem tsz_3 : tsz Try.prog 3 = 1 := by kernel_rfl
@[go_sem] theorem tel_3 : tel Try.prog 3 = (none : Option TypeId) := by kernel_rfl
@[go_sem] theorem tarr_3 : tarr Try.prog 3 = (none : Option (Nat × TypeId)) := by kernel_rfl
@[go_sem] theorem tfld_3 : tfld Try.prog 3 = (none : Option (List (Nat × TypeId))) := by kernel_rfl
@[go_sem] theorem tint_3 : tint Try.prog 3 = (some IntKind.i64 : Option IntKind) := by kernel_rfl
@[go_sem] theorem tstr_3 : tstr Try.prog 3 = false := by kernel_rfl
@[go_sem] theorem tagg_3 : tagg Try.prog 3 = (some false : Option Bool) := by kernel_rfl
@[go_sem] theorem tby_3 : tby Try.prog 3 = 8 := by kernel_rfl
@[go_sem] theorem tkind_3 : tkind Try.prog 3 = (some 0 : Option Nat) := by kernel_rfl
@[go_sem] theorem teq_3 : teq Try.prog 3 = (none : Option (List Nat)) := by kernel_rfl
@[go_sem] theorem tpt_3 : tpt Try.prog 3 = false := by kernel_rfl
@[go_sem] theorem tzA_3 : tzA Try.prog 3 = (some (AV.v (Value.int IntKind.i64 (0))) : Option AV) := by kernel_rfl
@[go_sem] theorem tund_4 : tund Try.prog 4 = true := by kernel_rfl
@[go_sem] theorem tsz_4 : tsz Try.prog 4 = 1 := by kernel_rfl
@[go_sem] theorem tel_4 : tel Try.prog 4 = (none : Option TypeId) := by kernel_rfl
@[go_sem] theorem tarr_4 : tarr Try.prog 4 = (none : Option (Nat × TypeId)) := by kernel_rfl
@[go_sem] theorem tfld_4 : tfld Try.prog 4 = (none : Option (List (Nat × TypeId))) := by kernel_rfl
@[go_sem] theorem tint_4 : tint Try.prog 4 = (none : Option IntKind) := by kernel_rfl
@[go_sem] theorem tstr_4 : tstr Try.prog 4 = false := by kernel_rfl
@[go_sem] theorem tagg_4 : tagg Try.prog 4 = (some false : Option Bool) := by kernel_rfl
@[go_sem] theorem tby_4 : tby Try.prog 4 = 1 := by kernel_rfl
@[go_sem] theorem tkind_4 : tkind Try.prog 4 = (some 1 : Option Nat) := by kernel_rfl
@[go_sem] theorem teq_4 : teq Try.prog 4 = (none : Option (List Nat)) := by kernel_rfl
@[go_sem] theorem tpt_4 : tpt Try.prog 4 = false := by kernel_rfl
@[go_sem] theorem tzA_4 : tzA Try.prog 4 = (some (AV.v (Value.bool false)) : Option AV) := by kernel_rfl
@[go_sem] theorem tund_5 : tund Try.prog 5 = true := by kernel_rfl
@[go_sem] theorem tsz_5 : tsz Try.prog 5 = 1 := by kernel_rfl
@[go_sem] theorem tel_5 : tel Try.prog 5 = (none : Option TypeId) := by kernel_rfl
@[go_sem] theorem tarr_5 : tarr Try.prog 5 = (none : Option (Nat × TypeId)) := by kernel_rfl
@[go_sem] theorem tfld_5 : tfld Try.prog 5 = (none : Option (List (Nat × TypeId))) := by kernel_rfl
@[go_sem] theorem tint_5 : tint Try.prog 5 = (some IntKind.u8 : Option IntKind) := by kernel_rfl
@[go_sem] theorem tstr_5 : tstr Try.prog 5 = false := by kernel_rfl
@[go_sem] theorem tagg_5 : tagg Try.prog 5 = (some false : Option Bool) := by kernel_rfl
@[go_sem] theorem tby_5 : tby Try.prog 5 = 1 := by kernel_rfl
@[go_sem] theorem tkind_5 : tkind Try.prog 5 = (some 0 : Option Nat) := by kernel_rfl
@[go_sem] theorem teq_5 : teq Try.prog 5 = (none : Option (List Nat)) := by kernel_rfl
@[go_sem] theorem tpt_5 : tpt Try.prog 5 = false := by kernel_rfl
@[go_sem] theorem tzA_5 : tzA Try.prog 5 = (some (AV.v (Value.int IntKind.u8 (0))) : Option AV) := by kernel_rfl
@[go_sem] theorem tund_6 : tund Try.prog 6 = true := by kernel_rfl
@[go_sem] theorem tsz_6 : tsz Try.prog 6 = 1 := by kernel_rfl
@[go_sem] theorem tel_6 : tel Try.prog 6 = (none : Option TypeId) := by kernel_rfl
@[go_sem] theorem tarr_6 : tarr Try.prog 6 = (none : Option (Nat × TypeId)) := by kernel_rfl
@[go_sem] theorem tfld_6 : tfld Try.prog 6 = (none : Option (List (Nat × TypeId))) := by kernel_rfl
@[go_sem] theorem tint_6 : tint Try.prog 6 = (some IntKind.u8 : Option IntKind) := by kernel_rfl
@[go_sem] theorem tstr_6 : tstr Try.prog 6 = false := by kernel_rfl
@[go_sem] theorem tagg_6 : tagg Try.prog 6 = (some false : Option Bool) := by kernel_rfl
@[go_sem] theorem tby_6 : tby Try.prog 6 = 1 := by kernel_rfl
@[go_sem] theorem tkind_6 : tkind Try.prog 6 = (some 0 : Option Nat) := by kernel_rfl
@[go_sem] theorem teq_6 : teq Try.prog 6 = (none : Option (List Nat)) := by kernel_rfl
@[go_sem] theorem tpt_6 : tpt Try.prog 6 = false := by kernel_rfl
@[go_sem] theorem tzA_6 : tzA Try.prog 6 = (some (AV.v (Value.int IntKind.u8 (0))) : Option AV) := by kernel_rfl
@[go_sem] theorem tund_7 : tund Try.prog 7 = true := by kernel_rfl
@[go_sem] theorem tsz_7 : tsz Try.prog 7 = 4 := by kernel_rfl
@[go_sem] theorem tel_7 : tel Try.prog 7 = (none : Option TypeId) := by kernel_rfl
@[go_sem] theorem tarr_7 : tarr Try.prog 7 = (none : Option (Nat × TypeId)) := by kernel_rfl
@[go_sem] theorem tfld_7 : tfld Try.prog 7 = (some [(0, 2), (1, 3), (2, 4), (3, 6)] : Option (List (Nat × TypeId))) := by kernel_rfl
@[go_sem] theorem tint_7 : tint Try.prog 7 = (none : Option IntKind) := by kernel_rfl
@[go_sem] theorem tstr_7 : tstr Try.prog 7 = false := by kernel_rfl
@[go_sem] theorem tagg_7 : tagg Try.prog 7 = (some true : Option Bool) := by kernel_rfl
@[go_sem] theorem tby_7 : tby Try.prog 7 = 24 := by kernel_rfl
@[go_sem] theorem tkind_7 : tkind Try.prog 7 = (none : Option Nat) := by kernel_rfl
@[go_sem] theorem teq_7 : teq Try.prog 7 = (some [0, 0, 1, 0] : Option (List Nat)) := by kernel_rfl
@[go_sem] theorem tpt_7 : tpt Try.prog 7 = false := by kernel_rfl
@[go_sem] theorem tzA_7 : tzA Try.prog 7 = (some (AV.agg [AV.v (Value.int IntKind.i64 (0)), AV.v (Value.int IntKind.i64 (0)), AV.v (Value.bool false), AV.v (Value.int IntKind.u8 (0))]) : Option AV) := by kernel_rfl
@[go_sem] theorem tund_8 : tund Try.prog 8 = true := by kernel_rfl
@[go_sem] theorem tsz_8 : tsz Try.prog 8 = 4 := by kernel_rfl
@[go_sem] theorem tel_8 : tel Try.prog 8 = (none : Option TypeId) := by kernel_rfl
@[go_sem] theorem tarr_8 : tarr Try.prog 8 = (none : Option (Nat × TypeId)) := by kernel_rfl
@[go_sem] theorem tfld_8 : tfld Try.prog 8 = (some [(0, 2), (1, 3), (2, 4), (3, 6)] : Option (List (Nat × TypeId))) := by kernel_rfl
@[go_sem] theorem tint_8 : tint Try.prog 8 = (none : Option IntKind) := by kernel_rfl
@[go_sem] theorem tstr_8 : tstr Try.prog 8 = false := by kernel_rfl
@[go_sem] theorem tagg_8 : tagg Try.prog 8 = (some true : Option Bool) := by kernel_rfl
@[go_sem] theorem tby_8 : tby Try.prog 8 = 24 := by kernel_rfl
@[go_sem] theorem tkind_8 : tkind Try.prog 8 = (none : Option Nat) := by kernel_rfl
@[go_sem] theorem teq_8 : teq Try.prog 8 = (some [0, 0, 1, 0] : Option (List Nat)) := by kernel_rfl
@[go_sem] theorem tpt_8 : tpt Try.prog 8 = false := by kernel_rfl
@[go_sem] theorem tzA_8 : tzA Try.prog 8 = (some (AV.agg [AV.v (Value.int IntKind.i64 (0)), AV.v (Value.int IntKind.i64 (0)), AV.v (Value.bool false), AV.v (Value.int IntKind.u8 (0))]) : Option AV) := by kernel_rfl
@[go_sem] theorem tund_9 : tund Try.prog 9 = true := by kernel_rfl
@[go_sem] theorem tsz_9 : tsz Try.prog 9 = 1 := by kernel_rfl
@[go_sem] theorem tel_9 : tel Try.prog 9 = (none : Option TypeId) := by kernel_rfl
@[go_sem] theorem tarr_9 : tarr Try.prog 9 = (none : Option (Nat × TypeId)) := by kernel_rfl
@[go_sem] theorem tfld_9 : tfld Try.prog 9 = (none : Option (List (Nat × TypeId))) := by kernel_rfl
@[go_sem] theorem tint_9 : tint Try.prog 9 = (none : Option IntKind) := by kernel_rfl
@[go_sem] theorem tstr_9 : tstr Try.prog 9 = true := by kernel_rfl
@[go_sem] theorem tagg_9 : tagg Try.prog 9 = (some false : Option Bool) := by kernel_rfl
@[go_sem] theorem tby_9 : tby Try.prog 9 = 16 := by kernel_rfl
@[go_sem] theorem tkind_9 : tkind Try.prog 9 = (some 2 : Option Nat) := by kernel_rfl
@[go_sem] theorem teq_9 : teq Try.prog 9 = (none : Option (List Nat)) := by kernel_rfl
@[go_sem] theorem tpt_9 : tpt Try.prog 9 = false := by kernel_rfl
@[go_sem] theorem tzA_9 : tzA Try.prog 9 = (some (AV.v (Value.string ByteArray.empty)) : Option AV) := by kernel_rfl
@[go_sem] theorem tund_10 : tund Try.prog 10 = true := by kernel_rfl
@[go_sem] theorem tsz_10 : tsz Try.prog 10 = 1 := by kernel_rfl
@[go_sem] theorem tel_10 : tel Try.prog 10 = (none : Option TypeId) := by kernel_rfl
@[go_sem] theorem tarr_10 : tarr Try.prog 10 = (none : Option (Nat × TypeId)) := by kernel_rfl
@[go_sem] theorem tfld_10 : tfld Try.prog 10 = (none : Option (List (Nat × TypeId))) := by kernel_rfl
@[go_sem] theorem tint_10 : tint Try.prog 10 = (none : Option IntKind) := by kernel_rfl
@[go_sem] theorem tstr_10 : tstr Try.prog 10 = true := by kernel_rfl
@[go_sem] theorem tagg_10 : tagg Try.prog 10 = (some false : Option Bool) := by kernel_rfl
@[go_sem] theorem tby_10 : tby Try.prog 10 = 16 := by kernel_rfl
@[go_sem] theorem tkind_10 : tkind Try.prog 10 = (some 2 : Option Nat) := by kernel_rfl
@[go_sem] theorem teq_10 : teq Try.prog 10 = (none : Option (List Nat)) := by kernel_rfl
@[go_sem] theorem tpt_10 : tpt Try.prog 10 = false := by kernel_rfl
@[go_sem] theorem tzA_10 : tzA Try.prog 10 = (some (AV.v (Value.string ByteArray.empty)) : Option AV) := by kernel_rfl
@[go_sem] theorem tund_11 : tund Try.prog 11 = true := by kernel_rfl
@[go_sem] theorem tsz_11 : tsz Try.prog 11 = 1 := by kernel_rfl
@[go_sem] theorem tel_11 : tel Try.prog 11 = (none : Option TypeId) := by kernel_rfl
@[go_sem] theorem tarr_11 : tarr Try.prog 11 = (none : Option (Nat × TypeId)) := by kernel_rfl
@[go_sem] theorem tfld_11 : tfld Try.prog 11 = (none : Option (List (Nat × TypeId))) := by kernel_rfl
@[go_sem] theorem tint_11 : tint Try.prog 11 = (none : Option IntKind) := by kernel_rfl
@[go_sem] theorem tstr_11 : tstr Try.prog 11 = true := by kernel_rfl
@[go_sem] theorem tagg_11 : tagg Try.prog 11 = (some false : Option Bool) := by kernel_rfl
@[go_sem] theorem tby_11 : tby Try.prog 11 = 16 := by kernel_rfl
@[go_sem] theorem tkind_11 : tkind Try.prog 11 = (some 2 : Option Nat) := by kernel_rfl
@[go_sem] theorem teq_11 : teq Try.prog 11 = (none : Option (List Nat)) := by kernel_rfl
@[go_sem] theorem tpt_11 : tpt Try.prog 11 = false := by kernel_rfl
@[go_sem] theorem tzA_11 : tzA Try.prog 11 = (some (AV.v (Value.string ByteArray.empty)) : Option AV) := by kernel_rfl
@[go_sem] theorem tund_12 : tund Try.prog 12 = true := by kernel_rfl
@[go_sem] theorem tsz_12 : tsz Try.prog 12 = 1 := by kernel_rfl
@[go_sem] theorem tel_12 : tel Try.prog 12 = (none : Option TypeId) := by kernel_rfl
@[go_sem] theorem tarr_12 : tarr Try.prog 12 = (none : Option (Nat × TypeId)) := by kernel_rfl
@[go_sem] theorem tfld_12 : tfld Try.prog 12 = (none : Option (List (Nat × TypeId))) := by kernel_rfl
@[go_sem] theorem tint_12 : tint Try.prog 12 = (some IntKind.u64 : Option IntKind) := by kernel_rfl
@[go_sem] theorem tstr_12 : tstr Try.prog 12 = false := by kernel_rfl
@[go_sem] theorem tagg_12 : tagg Try.prog 12 = (some false : Option Bool) := by kernel_rfl
@[go_sem] theorem tby_12 : tby Try.prog 12 = 8 := by kernel_rfl
@[go_sem] theorem tkind_12 : tkind Try.prog 12 = (some 0 : Option Nat) := by kernel_rfl
@[go_sem] theorem teq_12 : teq Try.prog 12 = (none : Option (List Nat)) := by kernel_rfl
@[go_sem] theorem tpt_12 : tpt Try.prog 12 = false := by kernel_rfl
@[go_sem] theorem tzA_12 : tzA Try.prog 12 = (some (AV.v (Value.int IntKind.u64 (0))) : Option AV) := by kernel_rfl
@[go_sem] theorem tund_13 : tund Try.prog 13 = true := by kernel_rfl
@[go_sem] theorem tsz_13 : tsz Try.prog 13 = 2 := by kernel_rfl
@[go_sem] theorem tel_13 : tel Try.prog 13 = (none : Option TypeId) := by kernel_rfl
@[go_sem] theorem tarr_13 : tarr Try.prog 13 = (none : Option (Nat × TypeId)) := by kernel_rfl
@[go_sem] theorem tfld_13 : tfld Try.prog 13 = (some [(0, 9), (1, 12)] : Option (List (Nat × TypeId))) := by kernel_rfl
@[go_sem] theorem tint_13 : tint Try.prog 13 = (none : Option IntKind) := by kernel_rfl
@[go_sem] theorem tstr_13 : tstr Try.prog 13 = false := by kernel_rfl
@[go_sem] theorem tagg_13 : tagg Try.prog 13 = (some true : Option Bool) := by kernel_rfl
@[go_sem] theorem tby_13 : tby Try.prog 13 = 24 := by kernel_rfl
@[go_sem] theorem tkind_13 : tkind Try.prog 13 = (none : Option Nat) := by kernel_rfl
@[go_sem] theorem teq_13 : teq Try.prog 13 = (none : Option (List Nat)) := by kernel_rfl
@[go_sem] theorem tpt_13 : tpt Try.prog 13 = false := by kernel_rfl
@[go_sem] theorem tzA_13 : tzA Try.prog 13 = (some (AV.agg [AV.v (Value.string ByteArray.empty), AV.v (Value.int IntKind.u64 (0))]) : Option AV) := by kernel_rfl
@[go_sem] theorem tund_14 : tund Try.prog 14 = true := by kernel_rfl
@[go_sem] theorem tsz_14 : tsz Try.prog 14 = 2 := by kernel_rfl
@[go_sem] theorem tel_14 : tel Try.prog 14 = (none : Option TypeId) := by kernel_rfl
@[go_sem] theorem tarr_14 : tarr Try.prog 14 = (none : Option (Nat × TypeId)) := by kernel_rfl
@[go_sem] theorem tfld_14 : tfld Try.prog 14 = (some [(0, 9), (1, 12)] : Option (List (Nat × TypeId))) := by kernel_rfl
@[go_sem] theorem tint_14 : tint Try.prog 14 = (none : Option IntKind) := by kernel_rfl
@[go_sem] theorem tstr_14 : tstr Try.prog 14 = false := by kernel_rfl
@[go_sem] theorem tagg_14 : tagg Try.prog 14 = (some true : Option Bool) := by kernel_rfl
@[go_sem] theorem tby_14 : tby Try.prog 14 = 24 := by kernel_rfl
@[go_sem] theorem tkind_14 : tkind Try.prog 14 = (none : Option Nat) := by kernel_rfl
@[go_sem] theorem teq_14 : teq Try.prog 14 = (none : Option (List Nat)) := by kernel_rfl
@[go_sem] theorem tpt_14 : tpt Try.prog 14 = false := by kernel_rfl
@[go_sem] theorem tzA_14 : tzA Try.prog 14 = (some (AV.agg [AV.v (Value.string ByteArray.empty), AV.v (Value.int IntKind.u64 (0))]) : Option AV) := by kernel_rfl
@[go_sem] theorem tund_15 : tund Try.prog 15 = true := by kernel_rfl
@[go_sem] theorem tsz_15 : tsz Try.prog 15 = 1 := by kernel_rfl
@[go_sem] theorem tel_15 : tel Try.prog 15 = (none : Option TypeId) := by kernel_rfl
@[go_sem] theorem tarr_15 : tarr Try.prog 15 = (none : Option (Nat × TypeId)) := by kernel_rfl
@[go_sem] theorem tfld_15 : tfld Try.prog 15 = (none : Option (List (Nat × TypeId))) := by kernel_rfl
@[go_sem] theorem tint_15 : tint Try.prog 15 = (none : Option IntKind) := by kernel_rfl
@[go_sem] theorem tstr_15 : tstr Try.prog 15 = false := by kernel_rfl
@[go_sem] theorem tagg_15 : tagg Try.prog 15 = (some false : Option Bool) := by kernel_rfl
@[go_sem] theorem tby_15 : tby Try.prog 15 = 8 := by kernel_rfl
@[go_sem] theorem tkind_15 : tkind Try.prog 15 = (none : Option Nat) := by kernel_rfl
@[go_sem] theorem teq_15 : teq Try.prog 15 = (none : Option (List Nat)) := by kernel_rfl
@[go_sem] theorem tpt_15 : tpt Try.prog 15 = true := by kernel_rfl
@[go_sem] theorem tzA_15 : tzA Try.prog 15 = (some (AV.v (Value.pointer none)) : Option AV) := by kernel_rfl
@[go_sem] theorem tund_16 : tund Try.prog 16 = true := by kernel_rfl
@[go_sem] theorem tsz_16 : tsz Try.prog 16 = 1 := by kernel_rfl
@[go_sem] theorem tel_16 : tel Try.prog 16 = (none : Option TypeId) := by kernel_rfl
@[go_sem] theorem tarr_16 : tarr Try.prog 16 = (none : Option (Nat × TypeId)) := by kernel_rfl
@[go_sem] theorem tfld_16 : tfld Try.prog 16 = (none : Option (List (Nat × TypeId))) := by kernel_rfl
@[go_sem] theorem tint_16 : tint Try.prog 16 = (none : Option IntKind) := by kernel_rfl
@[go_sem] theorem tstr_16 : tstr Try.prog 16 = false := by kernel_rfl
@[go_sem] theorem tagg_16 : tagg Try.prog 16 = (some false : Option Bool) := by kernel_rfl
@[go_sem] theorem tby_16 : tby Try.prog 16 = 8 := by kernel_rfl
@[go_sem] theorem tkind_16 : tkind Try.prog 16 = (none : Option Nat) := by kernel_rfl
@[go_sem] theorem teq_16 : teq Try.prog 16 = (none : Option (List Nat)) := by kernel_rfl
@[go_sem] theorem tpt_16 : tpt Try.prog 16 = true := by kernel_rfl
@[go_sem] theorem tzA_16 : tzA Try.prog 16 = (some (AV.v (Value.pointer none)) : Option AV) := by kernel_rfl
@[go_sem] theorem tund_17 : tund Try.prog 17 = true := by kernel_rfl
@[go_sem] theorem tsz_17 : tsz Try.prog 17 = 1 := by kernel_rfl
@[go_sem] theorem tel_17 : tel Try.prog 17 = (none : Option TypeId) := by kernel_rfl
@[go_sem] theorem tarr_17 : tarr Try.prog 17 = (none : Option (Nat × TypeId)) := by kernel_rfl
@[go_sem] theorem tfld_17 : tfld Try.prog 17 = (none : Option (List (Nat × TypeId))) := by kernel_rfl
@[go_sem] theorem tint_17 : tint Try.prog 17 = (none : Option IntKind) := by kernel_rfl
@[go_sem] theorem tstr_17 : tstr Try.prog 17 = false := by kernel_rfl
@[go_sem] theorem tagg_17 : tagg Try.prog 17 = (some false : Option Bool) := by kernel_rfl
@[go_sem] theorem tby_17 : tby Try.prog 17 = 8 := by kernel_rfl
@[go_sem] theorem tkind_17 : tkind Try.prog 17 = (none : Option Nat) := by kernel_rfl
@[go_sem] theorem teq_17 : teq Try.prog 17 = (none : Option (List Nat)) := by kernel_rfl
@[go_sem] theorem tpt_17 : tpt Try.prog 17 = true := by kernel_rfl
@[go_sem] theorem tzA_17 : tzA Try.prog 17 = (some (AV.v (Value.pointer none)) : Option AV) := by kernel_rfl
@[go_sem] theorem tund_18 : tund Try.prog 18 = true := by kernel_rfl
@[go_sem] theorem tsz_18 : tsz Try.prog 18 = 1 := by kernel_rfl
@[go_sem] theorem tel_18 : tel Try.prog 18 = (none : Option TypeId) := by kernel_rfl
@[go_sem] theorem tarr_18 : tarr Try.prog 18 = (none : Option (Nat × TypeId)) := by kernel_rfl
@[go_sem] theorem tfld_18 : tfld Try.prog 18 = (some [(0, 17)] : Option (List (Nat × TypeId))) := by kernel_rfl
@[go_sem] theorem tint_18 : tint Try.prog 18 = (none : Option IntKind) := by kernel_rfl
@[go_sem] theorem tstr_18 : tstr Try.prog 18 = false := by kernel_rfl
@[go_sem] theorem tagg_18 : tagg Try.prog 18 = (some true : Option Bool) := by kernel_rfl
@[go_sem] theorem tby_18 : tby Try.prog 18 = 8 := by kernel_rfl
@[go_sem] theorem tkind_18 : tkind Try.prog 18 = (none : Option Nat) := by kernel_rfl
@[go_sem] theorem teq_18 : teq Try.prog 18 = (none : Option (List Nat)) := by kernel_rfl
@[go_sem] theorem tpt_18 : tpt Try.prog 18 = false := by kernel_rfl
@[go_sem] theorem tzA_18 : tzA Try.prog 18 = (some (AV.agg [AV.v (Value.pointer none)]) : Option AV) := by kernel_rfl
@[go_sem] theorem tund_19 : tund Try.prog 19 = true := by kernel_rfl
@[go_sem] theorem tsz_19 : tsz Try.prog 19 = 1 := by kernel_rfl
@[go_sem] theorem tel_19 : tel Try.prog 19 = (none : Option TypeId) := by kernel_rfl
@[go_sem] theorem tarr_19 : tarr Try.prog 19 = (none : Option (Nat × TypeId)) := by kernel_rfl
@[go_sem] theorem tfld_19 : tfld Try.prog 19 = (some [(0, 17)] : Option (List (Nat × TypeId))) := by kernel_rfl
@[go_sem] theorem tint_19 : tint Try.prog 19 = (none : Option IntKind) := by kernel_rfl
@[go_sem] theorem tstr_19 : tstr Try.prog 19 = false := by kernel_rfl
@[go_sem] theorem tagg_19 : tagg Try.prog 19 = (some true : Option Bool) := by kernel_rfl
@[go_sem] theorem tby_19 : tby Try.prog 19 = 8 := by kernel_rfl
@[go_sem] theorem tkind_19 : tkind Try.prog 19 = (none : Option Nat) := by kernel_rfl
@[go_sem] theorem teq_19 : teq Try.prog 19 = (none : Option (List Nat)) := by kernel_rfl
@[go_sem] theorem tpt_19 : tpt Try.prog 19 = false := by kernel_rfl
@[go_sem] theorem tzA_19 : tzA Try.prog 19 = (some (AV.agg [AV.v (Value.pointer none)]) : Option AV) := by kernel_rfl
@[go_sem] theorem tund_20 : tund Try.prog 20 = true := by kernel_rfl
@[go_sem] theorem tsz_20 : tsz Try.prog 20 = 1 := by kernel_rfl
@[go_sem] theorem tel_20 : tel Try.prog 20 = (none : Option TypeId) := by kernel_rfl
@[go_sem] theorem tarr_20 : tarr Try.prog 20 = (none : Option (Nat × TypeId)) := by kernel_rfl
@[go_sem] theorem tfld_20 : tfld Try.prog 20 = (none : Option (List (Nat × TypeId))) := by kernel_rfl
@[go_sem] theorem tint_20 : tint Try.prog 20 = (none : Option IntKind) := by kernel_rfl
@[go_sem] theorem tstr_20 : tstr Try.prog 20 = false := by kernel_rfl
@[go_sem] theorem tagg_20 : tagg Try.prog 20 = (some false : Option Bool) := by kernel_rfl
@[go_sem] theorem tby_20 : tby Try.prog 20 = 16 := by kernel_rfl
@[go_sem] theorem tkind_20 : tkind Try.prog 20 = (none : Option Nat) := by kernel_rfl
@[go_sem] theorem teq_20 : teq Try.prog 20 = (none : Option (List Nat)) := by kernel_rfl
@[go_sem] theorem tpt_20 : tpt Try.prog 20 = false := by kernel_rfl
@[go_sem] theorem tzA_20 : tzA Try.prog 20 = (some (AV.v Value.nilIface) : Option AV) := by kernel_rfl
@[go_sem] theorem tund_21 : tund Try.prog 21 = true := by kernel_rfl
@[go_sem] theorem tsz_21 : tsz Try.prog 21 = 1 := by kernel_rfl
@[go_sem] theorem tel_21 : tel Try.prog 21 = (none : Option TypeId) := by kernel_rfl
@[go_sem] theorem tarr_21 : tarr Try.prog 21 = (none : Option (Nat × TypeId)) := by kernel_rfl
@[go_sem] theorem tfld_21 : tfld Try.prog 21 = (none : Option (List (Nat × TypeId))) := by kernel_rfl
@[go_sem] theorem tint_21 : tint Try.prog 21 = (some IntKind.i32 : Option IntKind) := by kernel_rfl
@[go_sem] theorem tstr_21 : tstr Try.prog 21 = false := by kernel_rfl
@[go_sem] theorem tagg_21 : tagg Try.prog 21 = (some false : Option Bool) := by kernel_rfl
@[go_sem] theorem tby_21 : tby Try.prog 21 = 4 := by kernel_rfl
@[go_sem] theorem tkind_21 : tkind Try.prog 21 = (some 0 : Option Nat) := by kernel_rfl
@[go_sem] theorem teq_21 : teq Try.prog 21 = (none : Option (List Nat)) := by kernel_rfl
@[go_sem] theorem tpt_21 : tpt Try.prog 21 = false := by kernel_rfl
@[go_sem] theorem tzA_21 : tzA Try.prog 21 = (some (AV.v (Value.int IntKind.i32 (0))) : Option AV) := by kernel_rfl
@[go_sem] theorem tund_22 : tund Try.prog 22 = true := by kernel_rfl
@[go_sem] theorem tsz_22 : tsz Try.prog 22 = 1 := by kernel_rfl
@[go_sem] theorem tz_22 : tz Try.prog 22 = some (Value.slice none 0 0) := by kernel_rfl
@[go_sem] theorem tel_22 : tel Try.prog 22 = (some 31 : Option TypeId) := by kernel_rfl
@[go_sem] theorem tarr_22 : tarr Try.prog 22 = (none : Option (Nat × TypeId)) := by kernel_rfl
@[go_sem] theorem tfld_22 : tfld Try.prog 22 = (none : Option (List (Nat × TypeId))) := by kernel_rfl
@[go_sem] theorem tint_22 : tint Try.prog 22 = (none : Option IntKind) := by kernel_rfl
@[go_sem] theorem tstr_22 : tstr Try.prog 22 = false := by kernel_rfl
@[go_sem] theorem tagg_22 : tagg Try.prog 22 = (some false : Option Bool) := by kernel_rfl
@[go_sem] theorem tby_22 : tby Try.prog 22 = 24 := by kernel_rfl
@[go_sem] theorem tkind_22 : tkind Try.prog 22 = (none : Option Nat) := by kernel_rfl
@[go_sem] theorem teq_22 : teq Try.prog 22 = (none : Option (List Nat)) := by kernel_rfl
@[go_sem] theorem tpt_22 : tpt Try.prog 22 = false := by kernel_rfl
@[go_sem] theorem tzA_22 : tzA Try.prog 22 = (some (AV.v (Value.slice none 0 0)) : Option AV) := by kernel_rfl
@[go_sem] theorem tund_23 : tund Try.prog 23 = true := by kernel_rfl
@[go_sem] theorem tsz_23 : tsz Try.prog 23 = 1 := by kernel_rfl
@[go_sem] theorem tel_23 : tel Try.prog 23 = (none : Option TypeId) := by kernel_rfl
@[go_sem] theorem tarr_23 : tarr Try.prog 23 = (none : Option (Nat × TypeId)) := by kernel_rfl
@[go_sem] theorem tfld_23 : tfld Try.prog 23 = (none : Option (List (Nat × TypeId))) := by kernel_rfl
@[go_sem] theorem tint_23 : tint Try.prog 23 = (none : Option IntKind) := by kernel_rfl
@[go_sem] theorem tstr_23 : tstr Try.prog 23 = false := by kernel_rfl
@[go_sem] theorem tagg_23 : tagg Try.prog 23 = (some false : Option Bool) := by kernel_rfl
@[go_sem] theorem tby_23 : tby Try.prog 23 = 8 := by kernel_rfl
@[go_sem] theorem tkind_23 : tkind Try.prog 23 = (none : Option Nat) := by kernel_rfl
@[go_sem] theorem teq_23 : teq Try.prog 23 = (none : Option (List Nat)) := by kernel_rfl
@[go_sem] theorem tpt_23 : tpt Try.prog 23 = false := by kernel_rfl
@[go_sem] theorem tzA_23 : tzA Try.prog 23 = (some (AV.v Value.nilFunc) : Option AV) := by kernel_rfl
@[go_sem] theorem tund_24 : tund Try.prog 24 = true := by kernel_rfl
@[go_sem] theorem tsz_24 : tsz Try.prog 24 = 1 := by kernel_rfl
@[go_sem] theorem tz_24 : tz Try.prog 24 = some (Value.slice none 0 0) := by kernel_rfl
@[go_sem] theorem tel_24 : tel Try.prog 24 = (some 56 : Option TypeId) := by kernel_rfl
@[go_sem] theorem tarr_24 : tarr Try.prog 24 = (none : Option (Nat × TypeId)) := by kernel_rfl
@[go_sem] theorem tfld_24 : tfld Try.prog 24 = (none : Option (List (Nat × TypeId))) := by kernel_rfl
@[go_sem] theorem tint_24 : tint Try.prog 24 = (none : Option IntKind) := by kernel_rfl
@[go_sem] theorem tstr_24 : tstr Try.prog 24 = false := by kernel_rfl
@[go_sem] theorem tagg_24 : tagg Try.prog 24 = (some false : Option Bool) := by kernel_rfl
@[go_sem] theorem tby_24 : tby Try.prog 24 = 24 := by kernel_rfl
@[go_sem] theorem tkind_24 : tkind Try.prog 24 = (none : Option Nat) := by kernel_rfl
@[go_sem] theorem teq_24 : teq Try.prog 24 = (none : Option (List Nat)) := by kernel_rfl
@[go_sem] theorem tpt_24 : tpt Try.prog 24 = false := by kernel_rfl
@[go_sem] theorem tzA_24 : tzA Try.prog 24 = (some (AV.v (Value.slice none 0 0)) : Option AV) := by kernel_rfl
@[go_sem] theorem tund_25 : tund Try.prog 25 = true := by kernel_rfl
@[go_sem] theorem tsz_25 : tsz Try.prog 25 = 2 := by kernel_rfl
@[go_sem] theorem tel_25 : tel Try.prog 25 = (none : Option TypeId) := by kernel_rfl
@[go_sem] theorem tarr_25 : tarr Try.prog 25 = (none : Option (Nat × TypeId)) := by kernel_rfl
@[go_sem] theorem tfld_25 : tfld Try.prog 25 = (some [(0, 24), (1, 3)] : Option (List (Nat × TypeId))) := by kernel_rfl
@[go_sem] theorem tint_25 : tint Try.prog 25 = (none : Option IntKind) := by kernel_rfl
@[go_sem] theorem tstr_25 : tstr Try.prog 25 = false := by kernel_rfl
@[go_sem] theorem tagg_25 : tagg Try.prog 25 = (some true : Option Bool) := by kernel_rfl
@[go_sem] theorem tby_25 : tby Try.prog 25 = 32 := by kernel_rfl
@[go_sem] theorem tkind_25 : tkind Try.prog 25 = (none : Option Nat) := by kernel_rfl
@[go_sem] theorem teq_25 : teq Try.prog 25 = (none : Option (List Nat)) := by kernel_rfl
@[go_sem] theorem tpt_25 : tpt Try.prog 25 = false := by kernel_rfl
@[go_sem] theorem tzA_25 : tzA Try.prog 25 = (some (AV.agg [AV.v (Value.slice none 0 0), AV.v (Value.int IntKind.i64 (0))]) : Option AV) := by kernel_rfl
@[go_sem] theorem tund_26 : tund Try.prog 26 = true := by kernel_rfl
@[go_sem] theorem tsz_26 : tsz Try.prog 26 = 2 := by kernel_rfl
@[go_sem] theorem tel_26 : tel Try.prog 26 = (none : Option TypeId) := by kernel_rfl
@[go_sem] theorem tarr_26 : tarr Try.prog 26 = (none : Option (Nat × TypeId)) := by kernel_rfl
@[go_sem] theorem tfld_26 : tfld Try.prog 26 = (some [(0, 24), (1, 3)] : Option (List (Nat × TypeId))) := by kernel_rfl
@[go_sem] theorem tint_26 : tint Try.prog 26 = (none : Option IntKind) := by kernel_rfl
@[go_sem] theorem tstr_26 : tstr Try.prog 26 = false := by kernel_rfl
@[go_sem] theorem tagg_26 : tagg Try.prog 26 = (some true : Option Bool) := by kernel_rfl
@[go_sem] theorem tby_26 : tby Try.prog 26 = 32 := by kernel_rfl
@[go_sem] theorem tkind_26 : tkind Try.prog 26 = (none : Option Nat) := by kernel_rfl
@[go_sem] theorem teq_26 : teq Try.prog 26 = (none : Option (List Nat)) := by kernel_rfl
@[go_sem] theorem tpt_26 : tpt Try.prog 26 = false := by kernel_rfl
@[go_sem] theorem tzA_26 : tzA Try.prog 26 = (some (AV.agg [AV.v (Value.slice none 0 0), AV.v (Value.int IntKind.i64 (0))]) : Option AV) := by kernel_rfl
@[go_sem] theorem tund_27 : tund Try.prog 27 = true := by kernel_rfl
@[go_sem] theorem tsz_27 : tsz Try.prog 27 = 1 := by kernel_rfl
@[go_sem] theorem tel_27 : tel Try.prog 27 = (none : Option TypeId) := by kernel_rfl
@[go_sem] theorem tarr_27 : tarr Try.prog 27 = (none : Option (Nat × TypeId)) := by kernel_rfl
@[go_sem] theorem tfld_27 : tfld Try.prog 27 = (none : Option (List (Nat × TypeId))) := by kernel_rfl
@[go_sem] theorem tint_27 : tint Try.prog 27 = (none : Option IntKind) := by kernel_rfl
@[go_sem] theorem tstr_27 : tstr Try.prog 27 = false := by kernel_rfl
@[go_sem] theorem tagg_27 : tagg Try.prog 27 = (some false : Option Bool) := by kernel_rfl
@[go_sem] theorem tby_27 : tby Try.prog 27 = 8 := by kernel_rfl
@[go_sem] theorem tkind_27 : tkind Try.prog 27 = (none : Option Nat) := by kernel_rfl
@[go_sem] theorem teq_27 : teq Try.prog 27 = (none : Option (List Nat)) := by kernel_rfl
@[go_sem] theorem tpt_27 : tpt Try.prog 27 = false := by kernel_rfl
@[go_sem] theorem tzA_27 : tzA Try.prog 27 = (some (AV.v Value.nilFunc) : Option AV) := by kernel_rfl
@[go_sem] theorem tund_28 : tund Try.prog 28 = true := by kernel_rfl
@[go_sem] theorem tsz_28 : tsz Try.prog 28 = 1 := by kernel_rfl
@[go_sem] theorem tel_28 : tel Try.prog 28 = (none : Option TypeId) := by kernel_rfl
@[go_sem] theorem tarr_28 : tarr Try.prog 28 = (none : Option (Nat × TypeId)) := by kernel_rfl
@[go_sem] theorem tfld_28 : tfld Try.prog 28 = (none : Option (List (Nat × TypeId))) := by kernel_rfl
@[go_sem] theorem tint_28 : tint Try.prog 28 = (none : Option IntKind) := by kernel_rfl
@[go_sem] theorem tstr_28 : tstr Try.prog 28 = false := by kernel_rfl
@[go_sem] theorem tagg_28 : tagg Try.prog 28 = (some false : Option Bool) := by kernel_rfl
@[go_sem] theorem tby_28 : tby Try.prog 28 = 8 := by kernel_rfl
@[go_sem] theorem tkind_28 : tkind Try.prog 28 = (none : Option Nat) := by kernel_rfl
@[go_sem] theorem teq_28 : teq Try.prog 28 = (none : Option (List Nat)) := by kernel_rfl
@[go_sem] theorem tpt_28 : tpt Try.prog 28 = false := by kernel_rfl
@[go_sem] theorem tzA_28 : tzA Try.prog 28 = (some (AV.v Value.nilFunc) : Option AV) := by kernel_rfl
@[go_sem] theorem tund_29 : tund Try.prog 29 = true := by kernel_rfl
@[go_sem] theorem tsz_29 : tsz Try.prog 29 = 1 := by kernel_rfl
@[go_sem] theorem tz_29 : tz Try.prog 29 = some (Value.slice none 0 0) := by kernel_rfl
@[go_sem] theorem tel_29 : tel Try.prog 29 = (some 39 : Option TypeId) := by kernel_rfl
@[go_sem] theorem tarr_29 : tarr Try.prog 29 = (none : Option (Nat × TypeId)) := by kernel_rfl
@[go_sem] theorem tfld_29 : tfld Try.prog 29 = (none : Option (List (Nat × TypeId))) := by kernel_rfl
@[go_sem] theorem tint_29 : tint Try.prog 29 = (none : Option IntKind) := by kernel_rfl
@[go_sem] theorem tstr_29 : tstr Try.prog 29 = false := by kernel_rfl
@[go_sem] theorem tagg_29 : tagg Try.prog 29 = (some false : Option Bool) := by kernel_rfl
@[go_sem] theorem tby_29 : tby Try.prog 29 = 24 := by kernel_rfl
@[go_sem] theorem tkind_29 : tkind Try.prog 29 = (none : Option Nat) := by kernel_rfl
@[go_sem] theorem teq_29 : teq Try.prog 29 = (none : Option (List Nat)) := by kernel_rfl
@[go_sem] theorem tpt_29 : tpt Try.prog 29 = false := by kernel_rfl
@[go_sem] theorem tzA_29 : tzA Try.prog 29 = (some (AV.v (Value.slice none 0 0)) : Option AV) := by kernel_rfl
@[go_sem] theorem tund_30 : tund Try.prog 30 = true := by kernel_rfl
@[go_sem] theorem tsz_30 : tsz Try.prog 30 = 1 := by kernel_rfl
@[go_sem] theorem tel_30 : tel Try.prog 30 = (none : Option TypeId) := by kernel_rfl
@[go_sem] theorem tarr_30 : tarr Try.prog 30 = (none : Option (Nat × TypeId)) := by kernel_rfl
@[go_sem] theorem tfld_30 : tfld Try.prog 30 = (none : Option (List (Nat × TypeId))) := by kernel_rfl
@[go_sem] theorem tint_30 : tint Try.prog 30 = (none : Option IntKind) := by kernel_rfl
@[go_sem] theorem tstr_30 : tstr Try.prog 30 = false := by kernel_rfl
@[go_sem] theorem tagg_30 : tagg Try.prog 30 = (some false : Option Bool) := by kernel_rfl
@[go_sem] theorem tby_30 : tby Try.prog 30 = 8 := by kernel_rfl
@[go_sem] theorem tkind_30 : tkind Try.prog 30 = (none : Option Nat) := by kernel_rfl
@[go_sem] theorem teq_30 : teq Try.prog 30 = (none : Option (List Nat)) := by kernel_rfl
@[go_sem] theorem tpt_30 : tpt Try.prog 30 = false := by kernel_rfl
@[go_sem] theorem tzA_30 : tzA Try.prog 30 = (some (AV.v Value.nilFunc) : Option AV) := by kernel_rfl
@[go_sem] theorem tund_31 : tund Try.prog 31 = true := by kernel_rfl
@[go_sem] theorem tsz_31 : tsz Try.prog 31 = 4 := by kernel_rfl
@[go_sem] theorem tel_31 : tel Try.prog 31 = (none : Option TypeId) := by kernel_rfl
@[go_sem] theorem tarr_31 : tarr Try.prog 31 = (some (4, 3) : Option (Nat × TypeId)) := by kernel_rfl
@[go_sem] theorem tfld_31 : tfld Try.prog 31 = (none : Option (List (Nat × TypeId))) := by kernel_rfl
@[go_sem] theorem tint_31 : tint Try.prog 31 = (none : Option IntKind) := by kernel_rfl
@[go_sem] theorem tstr_31 : tstr Try.prog 31 = false := by kernel_rfl
@[go_sem] theorem tagg_31 : tagg Try.prog 31 = (some true : Option Bool) := by kernel_rfl
@[go_sem] theorem tby_31 : tby Try.prog 31 = 32 := by kernel_rfl
@[go_sem] theorem tkind_31 : tkind Try.prog 31 = (none : Option Nat) := by kernel_rfl
@[go_sem] theorem teq_31 : teq Try.prog 31 = (none : Option (List Nat)) := by kernel_rfl
@[go_sem] theorem tpt_31 : tpt Try.prog 31 = false := by kernel_rfl
@[go_sem] theorem tzA_31 : tzA Try.prog 31 = (some (AV.agg [AV.v (Value.int IntKind.i64 (0)), AV.v (Value.int IntKind.i64 (0)), AV.v (Value.int IntKind.i64 (0)), AV.v (Value.int IntKind.i64 (0))]) : Option AV) := by kernel_rfl
@[go_sem] theorem tund_32 : tund Try.prog 32 = true := by kernel_rfl
@[go_sem] theorem tsz_32 : tsz Try.prog 32 = 2 := by kernel_rfl
@[go_sem] theorem tel_32 : tel Try.prog 32 = (none : Option TypeId) := by kernel_rfl
@[go_sem] theorem tarr_32 : tarr Try.prog 32 = (none : Option (Nat × TypeId)) := by kernel_rfl
@[go_sem] theorem tfld_32 : tfld Try.prog 32 = (some [(0, 3), (1, 3)] : Option (List (Nat × TypeId))) := by kernel_rfl
@[go_sem] theorem tint_32 : tint Try.prog 32 = (none : Option IntKind) := by kernel_rfl
@[go_sem] theorem tstr_32 : tstr Try.prog 32 = false := by kernel_rfl
@[go_sem] theorem tagg_32 : tagg Try.prog 32 = (some true : Option Bool) := by kernel_rfl
@[go_sem] theorem tby_32 : tby Try.prog 32 = 16 := by kernel_rfl
@[go_sem] theorem tkind_32 : tkind Try.prog 32 = (none : Option Nat) := by kernel_rfl
@[go_sem] theorem teq_32 : teq Try.prog 32 = (some [0, 0] : Option (List Nat)) := by kernel_rfl
@[go_sem] theorem tpt_32 : tpt Try.prog 32 = false := by kernel_rfl
@[go_sem] theorem tzA_32 : tzA Try.prog 32 = (some (AV.agg [AV.v (Value.int IntKind.i64 (0)), AV.v (Value.int IntKind.i64 (0))]) : Option AV) := by kernel_rfl
@[go_sem] theorem tund_33 : tund Try.prog 33 = true := by kernel_rfl
@[go_sem] theorem tsz_33 : tsz Try.prog 33 = 2 := by kernel_rfl
@[go_sem] theorem tel_33 : tel Try.prog 33 = (none : Option TypeId) := by kernel_rfl
@[go_sem] theorem tarr_33 : tarr Try.prog 33 = (none : Option (Nat × TypeId)) := by kernel_rfl
@[go_sem] theorem tfld_33 : tfld Try.prog 33 = (some [(0, 3), (1, 3)] : Option (List (Nat × TypeId))) := by kernel_rfl
@[go_sem] theorem tint_33 : tint Try.prog 33 = (none : Option IntKind) := by kernel_rfl
@[go_sem] theorem tstr_33 : tstr Try.prog 33 = false := by kernel_rfl
@[go_sem] theorem tagg_33 : tagg Try.prog 33 = (some true : Option Bool) := by kernel_rfl
@[go_sem] theorem tby_33 : tby Try.prog 33 = 16 := by kernel_rfl
@[go_sem] theorem tkind_33 : tkind Try.prog 33 = (none : Option Nat) := by kernel_rfl
@[go_sem] theorem teq_33 : teq Try.prog 33 = (some [0, 0] : Option (List Nat)) := by kernel_rfl
@[go_sem] theorem tpt_33 : tpt Try.prog 33 = false := by kernel_rfl
@[go_sem] theorem tzA_33 : tzA Try.prog 33 = (some (AV.agg [AV.v (Value.int IntKind.i64 (0)), AV.v (Value.int IntKind.i64 (0))]) : Option AV) := by kernel_rfl
@[go_sem] theorem tund_34 : tund Try.prog 34 = true := by kernel_rfl
@[go_sem] theorem tsz_34 : tsz Try.prog 34 = 1 := by kernel_rfl
@[go_sem] theorem tel_34 : tel Try.prog 34 = (none : Option TypeId) := by kernel_rfl
@[go_sem] theorem tarr_34 : tarr Try.prog 34 = (none : Option (Nat × TypeId)) := by kernel_rfl
@[go_sem] theorem tfld_34 : tfld Try.prog 34 = (none : Option (List (Nat × TypeId))) := by kernel_rfl
@[go_sem] theorem tint_34 : tint Try.prog 34 = (none : Option IntKind) := by kernel_rfl
@[go_sem] theorem tstr_34 : tstr Try.prog 34 = false := by kernel_rfl
@[go_sem] theorem tagg_34 : tagg Try.prog 34 = (some false : Option Bool) := by kernel_rfl
@[go_sem] theorem tby_34 : tby Try.prog 34 = 8 := by kernel_rfl
@[go_sem] theorem tkind_34 : tkind Try.prog 34 = (none : Option Nat) := by kernel_rfl
@[go_sem] theorem teq_34 : teq Try.prog 34 = (none : Option (List Nat)) := by kernel_rfl
@[go_sem] theorem tpt_34 : tpt Try.prog 34 = false := by kernel_rfl
@[go_sem] theorem tzA_34 : tzA Try.prog 34 = (some (AV.v Value.nilFunc) : Option AV) := by kernel_rfl
@[go_sem] theorem tund_35 : tund Try.prog 35 = true := by kernel_rfl
@[go_sem] theorem tsz_35 : tsz Try.prog 35 = 1 := by kernel_rfl
@[go_sem] theorem tel_35 : tel Try.prog 35 = (none : Option TypeId) := by kernel_rfl
@[go_sem] theorem tarr_35 : tarr Try.prog 35 = (none : Option (Nat × TypeId)) := by kernel_rfl
@[go_sem] theorem tfld_35 : tfld Try.prog 35 = (none : Option (List (Nat × TypeId))) := by kernel_rfl
@[go_sem] theorem tint_35 : tint Try.prog 35 = (some IntKind.i64 : Option IntKind) := by kernel_rfl
@[go_sem] theorem tstr_35 : tstr Try.prog 35 = false := by kernel_rfl
@[go_sem] theorem tagg_35 : tagg Try.prog 35 = (some false : Option Bool) := by kernel_rfl
@[go_sem] theorem tby_35 : tby Try.prog 35 = 8 := by kernel_rfl
@[go_sem] theorem tkind_35 : tkind Try.prog 35 = (some 0 : Option Nat) := by kernel_rfl
@[go_sem] theorem teq_35 : teq Try.prog 35 = (none : Option (List Nat)) := by kernel_rfl
@[go_sem] theorem tpt_35 : tpt Try.prog 35 = false := by kernel_rfl
@[go_sem] theorem tzA_35 : tzA Try.prog 35 = (some (AV.v (Value.int IntKind.i64 (0))) : Option AV) := by kernel_rfl
@[go_sem] theorem tund_36 : tund Try.prog 36 = true := by kernel_rfl
@[go_sem] theorem tsz_36 : tsz Try.prog 36 = 1 := by kernel_rfl
@[go_sem] theorem tel_36 : tel Try.prog 36 = (none : Option TypeId) := by kernel_rfl
@[go_sem] theorem tarr_36 : tarr Try.prog 36 = (none : Option (Nat × TypeId)) := by kernel_rfl
@[go_sem] theorem tfld_36 : tfld Try.prog 36 = (none : Option (List (Nat × TypeId))) := by kernel_rfl
@[go_sem] theorem tint_36 : tint Try.prog 36 = (none : Option IntKind) := by kernel_rfl
@[go_sem] theorem tstr_36 : tstr Try.prog 36 = false := by kernel_rfl
@[go_sem] theorem tagg_36 : tagg Try.prog 36 = (some false : Option Bool) := by kernel_rfl
@[go_sem] theorem tby_36 : tby Try.prog 36 = 0 := by kernel_rfl
@[go_sem] theorem tkind_36 : tkind Try.prog 36 = (none : Option Nat) := by kernel_rfl
@[go_sem] theorem teq_36 : teq Try.prog 36 = (none : Option (List Nat)) := by kernel_rfl
@[go_sem] theorem tpt_36 : tpt Try.prog 36 = false := by kernel_rfl
@[go_sem] theorem tzA_36 : tzA Try.prog 36 = (some (AV.tup [AV.v (Value.int IntKind.i64 (0)), AV.v (Value.int IntKind.i64 (0))]) : Option AV) := by kernel_rfl
@[go_sem] theorem tund_37 : tund Try.prog 37 = true := by kernel_rfl
@[go_sem] theorem tsz_37 : tsz Try.prog 37 = 1 := by kernel_rfl
@[go_sem] theorem tel_37 : tel Try.prog 37 = (none : Option TypeId) := by kernel_rfl
@[go_sem] theorem tarr_37 : tarr Try.prog 37 = (none : Option (Nat × TypeId)) := by kernel_rfl
@[go_sem] theorem tfld_37 : tfld Try.prog 37 = (none : Option (List (Nat × TypeId))) := by kernel_rfl
@[go_sem] theorem tint_37 : tint Try.prog 37 = (none : Option IntKind) := by kernel_rfl
@[go_sem] theorem tstr_37 : tstr Try.prog 37 = false := by kernel_rfl
@[go_sem] theorem tagg_37 : tagg Try.prog 37 = (some false : Option Bool) := by kernel_rfl
@[go_sem] theorem tby_37 : tby Try.prog 37 = 8 := by kernel_rfl
@[go_sem] theorem tkind_37 : tkind Try.prog 37 = (none : Option Nat) := by kernel_rfl
@[go_sem] theorem teq_37 : teq Try.prog 37 = (none : Option (List Nat)) := by kernel_rfl
@[go_sem] theorem tpt_37 : tpt Try.prog 37 = false := by kernel_rfl
@[go_sem] theorem tzA_37 : tzA Try.prog 37 = (some (AV.v Value.nilFunc) : Option AV) := by kernel_rfl
@[go_sem] theorem tund_38 : tund Try.prog 38 = true := by kernel_rfl
@[go_sem] theorem tsz_38 : tsz Try.prog 38 = 3 := by kernel_rfl
@[go_sem] theorem tel_38 : tel Try.prog 38 = (none : Option TypeId) := by kernel_rfl
@[go_sem] theorem tarr_38 : tarr Try.prog 38 = (none : Option (Nat × TypeId)) := by kernel_rfl
@[go_sem] theorem tfld_38 : tfld Try.prog 38 = (some [(0, 3), (1, 3), (2, 3)] : Option (List (Nat × TypeId))) := by kernel_rfl
@[go_sem] theorem tint_38 : tint Try.prog 38 = (none : Option IntKind) := by kernel_rfl
@[go_sem] theorem tstr_38 : tstr Try.prog 38 = false := by kernel_rfl
@[go_sem] theorem tagg_38 : tagg Try.prog 38 = (some true : Option Bool) := by kernel_rfl
@[go_sem] theorem tby_38 : tby Try.prog 38 = 24 := by kernel_rfl
@[go_sem] theorem tkind_38 : tkind Try.prog 38 = (none : Option Nat) := by kernel_rfl
@[go_sem] theorem teq_38 : teq Try.prog 38 = (some [0, 0, 0] : Option (List Nat)) := by kernel_rfl
@[go_sem] theorem tpt_38 : tpt Try.prog 38 = false := by kernel_rfl
@[go_sem] theorem tzA_38 : tzA Try.prog 38 = (some (AV.agg [AV.v (Value.int IntKind.i64 (0)), AV.v (Value.int IntKind.i64 (0)), AV.v (Value.int IntKind.i64 (0))]) : Option AV) := by kernel_rfl
@[go_sem] theorem tund_39 : tund Try.prog 39 = true := by kernel_rfl
@[go_sem] theorem tsz_39 : tsz Try.prog 39 = 3 := by kernel_rfl
@[go_sem] theorem tel_39 : tel Try.prog 39 = (none : Option TypeId) := by kernel_rfl
@[go_sem] theorem tarr_39 : tarr Try.prog 39 = (none : Option (Nat × TypeId)) := by kernel_rfl
@[go_sem] theorem tfld_39 : tfld Try.prog 39 = (some [(0, 3), (1, 3), (2, 3)] : Option (List (Nat × TypeId))) := by kernel_rfl
@[go_sem] theorem tint_39 : tint Try.prog 39 = (none : Option IntKind) := by kernel_rfl
@[go_sem] theorem tstr_39 : tstr Try.prog 39 = false := by kernel_rfl
@[go_sem] theorem tagg_39 : tagg Try.prog 39 = (some true : Option Bool) := by kernel_rfl
@[go_sem] theorem tby_39 : tby Try.prog 39 = 24 := by kernel_rfl
@[go_sem] theorem tkind_39 : tkind Try.prog 39 = (none : Option Nat) := by kernel_rfl
@[go_sem] theorem teq_39 : teq Try.prog 39 = (some [0, 0, 0] : Option (List Nat)) := by kernel_rfl
@[go_sem] theorem tpt_39 : tpt Try.prog 39 = false := by kernel_rfl
@[go_sem] theorem tzA_39 : tzA Try.prog 39 = (some (AV.agg [AV.v (Value.int IntKind.i64 (0)), AV.v (Value.int IntKind.i64 (0)), AV.v (Value.int IntKind.i64 (0))]) : Option AV) := by kernel_rfl
@[go_sem] theorem tund_40 : tund Try.prog 40 = true := by kernel_rfl
@[go_sem] theorem tsz_40 : tsz Try.prog 40 = 1 := by kernel_rfl
@[go_sem] theorem tz_40 : tz Try.prog 40 = some (Value.slice none 0 0) := by kernel_rfl
@[go_sem] theorem tel_40 : tel Try.prog 40 = (some 33 : Option TypeId) := by kernel_rfl
@[go_sem] theorem tarr_40 : tarr Try.prog 40 = (none : Option (Nat × TypeId)) := by kernel_rfl
@[go_sem] theorem tfld_40 : tfld Try.prog 40 = (none : Option (List (Nat × TypeId))) := by kernel_rfl
@[go_sem] theorem tint_40 : tint Try.prog 40 = (none : Option IntKind) := by kernel_rfl
@[go_sem] theorem tstr_40 : tstr Try.prog 40 = false := by kernel_rfl
@[go_sem] theorem tagg_40 : tagg Try.prog 40 = (some false : Option Bool) := by kernel_rfl
@[go_sem] theorem tby_40 : tby Try.prog 40 = 24 := by kernel_rfl
@[go_sem] theorem tkind_40 : tkind Try.prog 40 = (none : Option Nat) := by kernel_rfl
@[go_sem] theorem teq_40 : teq Try.prog 40 = (none : Option (List Nat)) := by kernel_rfl
@[go_sem] theorem tpt_40 : tpt Try.prog 40 = false := by kernel_rfl
@[go_sem] theorem tzA_40 : tzA Try.prog 40 = (some (AV.v (Value.slice none 0 0)) : Option AV) := by kernel_rfl
@[go_sem] theorem tund_41 : tund Try.prog 41 = true := by kernel_rfl
@[go_sem] theorem tsz_41 : tsz Try.prog 41 = 1 := by kernel_rfl
@[go_sem] theorem tz_41 : tz Try.prog 41 = some (Value.slice none 0 0) := by kernel_rfl
@[go_sem] theorem tel_41 : tel Try.prog 41 = (some 3 : Option TypeId) := by kernel_rfl
@[go_sem] theorem tarr_41 : tarr Try.prog 41 = (none : Option (Nat × TypeId)) := by kernel_rfl
@[go_sem] theorem tfld_41 : tfld Try.prog 41 = (none : Option (List (Nat × TypeId))) := by kernel_rfl
@[go_sem] theorem tint_41 : tint Try.prog 41 = (none : Option IntKind) := by kernel_rfl
@[go_sem] theorem tstr_41 : tstr Try.prog 41 = false := by kernel_rfl
@[go_sem] theorem tagg_41 : tagg Try.prog 41 = (some false : Option Bool) := by kernel_rfl
@[go_sem] theorem tby_41 : tby Try.prog 41 = 24 := by kernel_rfl
@[go_sem] theorem tkind_41 : tkind Try.prog 41 = (none : Option Nat) := by kernel_rfl
@[go_sem] theorem teq_41 : teq Try.prog 41 = (none : Option (List Nat)) := by kernel_rfl
@[go_sem] theorem tpt_41 : tpt Try.prog 41 = false := by kernel_rfl
@[go_sem] theorem tzA_41 : tzA Try.prog 41 = (some (AV.v (Value.slice none 0 0)) : Option AV) := by kernel_rfl
@[go_sem] theorem tund_42 : tund Try.prog 42 = true := by kernel_rfl
@[go_sem] theorem tsz_42 : tsz Try.prog 42 = 1 := by kernel_rfl
@[go_sem] theorem tel_42 : tel Try.prog 42 = (none : Option TypeId) := by kernel_rfl
@[go_sem] theorem tarr_42 : tarr Try.prog 42 = (none : Option (Nat × TypeId)) := by kernel_rfl
@[go_sem] theorem tfld_42 : tfld Try.prog 42 = (none : Option (List (Nat × TypeId))) := by kernel_rfl
@[go_sem] theorem tint_42 : tint Try.prog 42 = (none : Option IntKind) := by kernel_rfl
@[go_sem] theorem tstr_42 : tstr Try.prog 42 = false := by kernel_rfl
@[go_sem] theorem tagg_42 : tagg Try.prog 42 = (some false : Option Bool) := by kernel_rfl
@[go_sem] theorem tby_42 : tby Try.prog 42 = 0 := by kernel_rfl
@[go_sem] theorem tkind_42 : tkind Try.prog 42 = (none : Option Nat) := by kernel_rfl
@[go_sem] theorem teq_42 : teq Try.prog 42 = (none : Option (List Nat)) := by kernel_rfl
@[go_sem] theorem tpt_42 : tpt Try.prog 42 = false := by kernel_rfl
@[go_sem] theorem tzA_42 : tzA Try.prog 42 = (some (AV.tup [AV.v (Value.slice none 0 0), AV.v (Value.int IntKind.i64 (0))]) : Option AV) := by kernel_rfl
@[go_sem] theorem tund_43 : tund Try.prog 43 = true := by kernel_rfl
@[go_sem] theorem tsz_43 : tsz Try.prog 43 = 1 := by kernel_rfl
@[go_sem] theorem tel_43 : tel Try.prog 43 = (none : Option TypeId) := by kernel_rfl
@[go_sem] theorem tarr_43 : tarr Try.prog 43 = (none : Option (Nat × TypeId)) := by kernel_rfl
@[go_sem] theorem tfld_43 : tfld Try.prog 43 = (none : Option (List (Nat × TypeId))) := by kernel_rfl
@[go_sem] theorem tint_43 : tint Try.prog 43 = (none : Option IntKind) := by kernel_rfl
@[go_sem] theorem tstr_43 : tstr Try.prog 43 = false := by kernel_rfl
@[go_sem] theorem tagg_43 : tagg Try.prog 43 = (some false : Option Bool) := by kernel_rfl
@[go_sem] theorem tby_43 : tby Try.prog 43 = 8 := by kernel_rfl
@[go_sem] theorem tkind_43 : tkind Try.prog 43 = (none : Option Nat) := by kernel_rfl
@[go_sem] theorem teq_43 : teq Try.prog 43 = (none : Option (List Nat)) := by kernel_rfl
@[go_sem] theorem tpt_43 : tpt Try.prog 43 = false := by kernel_rfl
@[go_sem] theorem tzA_43 : tzA Try.prog 43 = (some (AV.v Value.nilFunc) : Option AV) := by kernel_rfl
@[go_sem] theorem tund_44 : tund Try.prog 44 = true := by kernel_rfl
@[go_sem] theorem tsz_44 : tsz Try.prog 44 = 1 := by kernel_rfl
@[go_sem] theorem tel_44 : tel Try.prog 44 = (none : Option TypeId) := by kernel_rfl
@[go_sem] theorem tarr_44 : tarr Try.prog 44 = (none : Option (Nat × TypeId)) := by kernel_rfl
@[go_sem] theorem tfld_44 : tfld Try.prog 44 = (none : Option (List (Nat × TypeId))) := by kernel_rfl
@[go_sem] theorem tint_44 : tint Try.prog 44 = (none : Option IntKind) := by kernel_rfl
@[go_sem] theorem tstr_44 : tstr Try.prog 44 = false := by kernel_rfl
@[go_sem] theorem tagg_44 : tagg Try.prog 44 = (some false : Option Bool) := by kernel_rfl
@[go_sem] theorem tby_44 : tby Try.prog 44 = 0 := by kernel_rfl
@[go_sem] theorem tkind_44 : tkind Try.prog 44 = (none : Option Nat) := by kernel_rfl
@[go_sem] theorem teq_44 : teq Try.prog 44 = (none : Option (List Nat)) := by kernel_rfl
@[go_sem] theorem tpt_44 : tpt Try.prog 44 = false := by kernel_rfl
@[go_sem] theorem tzA_44 : tzA Try.prog 44 = (some (AV.tup [AV.v (Value.slice none 0 0), AV.v (Value.int IntKind.i64 (0))]) : Option AV) := by kernel_rfl
@[go_sem] theorem tund_45 : tund Try.prog 45 = true := by kernel_rfl
@[go_sem] theorem tsz_45 : tsz Try.prog 45 = 1 := by kernel_rfl
@[go_sem] theorem tel_45 : tel Try.prog 45 = (none : Option TypeId) := by kernel_rfl
@[go_sem] theorem tarr_45 : tarr Try.prog 45 = (none : Option (Nat × TypeId)) := by kernel_rfl
@[go_sem] theorem tfld_45 : tfld Try.prog 45 = (none : Option (List (Nat × TypeId))) := by kernel_rfl
@[go_sem] theorem tint_45 : tint Try.prog 45 = (none : Option IntKind) := by kernel_rfl
@[go_sem] theorem tstr_45 : tstr Try.prog 45 = false := by kernel_rfl
@[go_sem] theorem tagg_45 : tagg Try.prog 45 = (some false : Option Bool) := by kernel_rfl
@[go_sem] theorem tby_45 : tby Try.prog 45 = 8 := by kernel_rfl
@[go_sem] theorem tkind_45 : tkind Try.prog 45 = (none : Option Nat) := by kernel_rfl
@[go_sem] theorem teq_45 : teq Try.prog 45 = (none : Option (List Nat)) := by kernel_rfl
@[go_sem] theorem tpt_45 : tpt Try.prog 45 = false := by kernel_rfl
@[go_sem] theorem tzA_45 : tzA Try.prog 45 = (some (AV.v Value.nilFunc) : Option AV) := by kernel_rfl
@[go_sem] theorem tund_46 : tund Try.prog 46 = true := by kernel_rfl
@[go_sem] theorem tsz_46 : tsz Try.prog 46 = 1 := by kernel_rfl
@[go_sem] theorem tel_46 : tel Try.prog 46 = (none : Option TypeId) := by kernel_rfl
@[go_sem] theorem tarr_46 : tarr Try.prog 46 = (none : Option (Nat × TypeId)) := by kernel_rfl
@[go_sem] theorem tfld_46 : tfld Try.prog 46 = (none : Option (List (Nat × TypeId))) := by kernel_rfl
@[go_sem] theorem tint_46 : tint Try.prog 46 = (none : Option IntKind) := by kernel_rfl
@[go_sem] theorem tstr_46 : tstr Try.prog 46 = false := by kernel_rfl
@[go_sem] theorem tagg_46 : tagg Try.prog 46 = (some false : Option Bool) := by kernel_rfl
@[go_sem] theorem tby_46 : tby Try.prog 46 = 8 := by kernel_rfl
@[go_sem] theorem tkind_46 : tkind Try.prog 46 = (none : Option Nat) := by kernel_rfl
@[go_sem] theorem teq_46 : teq Try.prog 46 = (none : Option (List Nat)) := by kernel_rfl
@[go_sem] theorem tpt_46 : tpt Try.prog 46 = false := by kernel_rfl
@[go_sem] theorem tzA_46 : tzA Try.prog 46 = (some (AV.v Value.nilFunc) : Option AV) := by kernel_rfl
@[go_sem] theorem tund_47 : tund Try.prog 47 = true := by kernel_rfl
@[go_sem] theorem tsz_47 : tsz Try.prog 47 = 1 := by kernel_rfl
@[go_sem] theorem tel_47 : tel Try.prog 47 = (none : Option TypeId) := by kernel_rfl
@[go_sem] theorem tarr_47 : tarr Try.prog 47 = (none : Option (Nat × TypeId)) := by kernel_rfl
@[go_sem] theorem tfld_47 : tfld Try.prog 47 = (none : Option (List (Nat × TypeId))) := by kernel_rfl
@[go_sem] theorem tint_47 : tint Try.prog 47 = (none : Option IntKind) := by kernel_rfl
@[go_sem] theorem tstr_47 : tstr Try.prog 47 = false := by kernel_rfl
@[go_sem] theorem tagg_47 : tagg Try.prog 47 = (some false : Option Bool) := by kernel_rfl
@[go_sem] theorem tby_47 : tby Try.prog 47 = 8 := by kernel_rfl
@[go_sem] theorem tkind_47 : tkind Try.prog 47 = (none : Option Nat) := by kernel_rfl
@[go_sem] theorem teq_47 : teq Try.prog 47 = (none : Option (List Nat)) := by kernel_rfl
@[go_sem] theorem tpt_47 : tpt Try.prog 47 = false := by kernel_rfl
@[go_sem] theorem tzA_47 : tzA Try.prog 47 = (some (AV.v Value.nilFunc) : Option AV) := by kernel_rfl
@[go_sem] theorem tund_48 : tund Try.prog 48 = true := by kernel_rfl
@[go_sem] theorem tsz_48 : tsz Try.prog 48 = 1 := by kernel_rfl
@[go_sem] theorem tel_48 : tel Try.prog 48 = (none : Option TypeId) := by kernel_rfl
@[go_sem] theorem tarr_48 : tarr Try.prog 48 = (none : Option (Nat × TypeId)) := by kernel_rfl
@[go_sem] theorem tfld_48 : tfld Try.prog 48 = (none : Option (List (Nat × TypeId))) := by kernel_rfl
@[go_sem] theorem tint_48 : tint Try.prog 48 = (none : Option IntKind) := by kernel_rfl
@[go_sem] theorem tstr_48 : tstr Try.prog 48 = false := by kernel_rfl
@[go_sem] theorem tagg_48 : tagg Try.prog 48 = (some false : Option Bool) := by kernel_rfl
@[go_sem] theorem tby_48 : tby Try.prog 48 = 8 := by kernel_rfl
@[go_sem] theorem tkind_48 : tkind Try.prog 48 = (none : Option Nat) := by kernel_rfl
@[go_sem] theorem teq_48 : teq Try.prog 48 = (none : Option (List Nat)) := by kernel_rfl
@[go_sem] theorem tpt_48 : tpt Try.prog 48 = false := by kernel_rfl
@[go_sem] theorem tzA_48 : tzA Try.prog 48 = (some (AV.v Value.nilFunc) : Option AV) := by kernel_rfl
@[go_sem] theorem tund_49 : tund Try.prog 49 = true := by kernel_rfl
@[go_sem] theorem tsz_49 : tsz Try.prog 49 = 1 := by kernel_rfl
@[go_sem] theorem tel_49 : tel Try.prog 49 = (none : Option TypeId) := by kernel_rfl
@[go_sem] theorem tarr_49 : tarr Try.prog 49 = (none : Option (Nat × TypeId)) := by kernel_rfl
@[go_sem] theorem tfld_49 : tfld Try.prog 49 = (none : Option (List (Nat × TypeId))) := by kernel_rfl
@[go_sem] theorem tint_49 : tint Try.prog 49 = (none : Option IntKind) := by kernel_rfl
@[go_sem] theorem tstr_49 : tstr Try.prog 49 = false := by kernel_rfl
@[go_sem] theorem tagg_49 : tagg Try.prog 49 = (some false : Option Bool) := by kernel_rfl
@[go_sem] theorem tby_49 : tby Try.prog 49 = 0 := by kernel_rfl
@[go_sem] theorem tkind_49 : tkind Try.prog 49 = (none : Option Nat) := by kernel_rfl
@[go_sem] theorem teq_49 : teq Try.prog 49 = (none : Option (List Nat)) := by kernel_rfl
@[go_sem] theorem tpt_49 : tpt Try.prog 49 = false := by kernel_rfl
@[go_sem] theorem tzA_49 : tzA Try.prog 49 = (some (AV.tup [AV.v (Value.slice none 0 0), AV.v (Value.bool false)]) : Option AV) := by kernel_rfl
@[go_sem] theorem tund_50 : tund Try.prog 50 = true := by kernel_rfl
@[go_sem] theorem tsz_50 : tsz Try.prog 50 = 1 := by kernel_rfl
@[go_sem] theorem tel_50 : tel Try.prog 50 = (none : Option TypeId) := by kernel_rfl
@[go_sem] theorem tarr_50 : tarr Try.prog 50 = (none : Option (Nat × TypeId)) := by kernel_rfl
@[go_sem] theorem tfld_50 : tfld Try.prog 50 = (none : Option (List (Nat × TypeId))) := by kernel_rfl
@[go_sem] theorem tint_50 : tint Try.prog 50 = (none : Option IntKind) := by kernel_rfl
@[go_sem] theorem tstr_50 : tstr Try.prog 50 = false := by kernel_rfl
@[go_sem] theorem tagg_50 : tagg Try.prog 50 = (some false : Option Bool) := by kernel_rfl
@[go_sem] theorem tby_50 : tby Try.prog 50 = 8 := by kernel_rfl
@[go_sem] theorem tkind_50 : tkind Try.prog 50 = (none : Option Nat) := by kernel_rfl
@[go_sem] theorem teq_50 : teq Try.prog 50 = (none : Option (List Nat)) := by kernel_rfl
@[go_sem] theorem tpt_50 : tpt Try.prog 50 = false := by kernel_rfl
@[go_sem] theorem tzA_50 : tzA Try.prog 50 = (some (AV.v Value.nilFunc) : Option AV) := by kernel_rfl
@[go_sem] theorem tund_51 : tund Try.prog 51 = true := by kernel_rfl
@[go_sem] theorem tsz_51 : tsz Try.prog 51 = 1 := by kernel_rfl
@[go_sem] theorem tel_51 : tel Try.prog 51 = (none : Option TypeId) := by kernel_rfl
@[go_sem] theorem tarr_51 : tarr Try.prog 51 = (none : Option (Nat × TypeId)) := by kernel_rfl
@[go_sem] theorem tfld_51 : tfld Try.prog 51 = (none : Option (List (Nat × TypeId))) := by kernel_rfl
@[go_sem] theorem tint_51 : tint Try.prog 51 = (none : Option IntKind) := by kernel_rfl
@[go_sem] theorem tstr_51 : tstr Try.prog 51 = false := by kernel_rfl
@[go_sem] theorem tagg_51 : tagg Try.prog 51 = (some false : Option Bool) := by kernel_rfl
@[go_sem] theorem tby_51 : tby Try.prog 51 = 8 := by kernel_rfl
@[go_sem] theorem tkind_51 : tkind Try.prog 51 = (none : Option Nat) := by kernel_rfl
@[go_sem] theorem teq_51 : teq Try.prog 51 = (none : Option (List Nat)) := by kernel_rfl
@[go_sem] theorem tpt_51 : tpt Try.prog 51 = false := by kernel_rfl
@[go_sem] theorem tzA_51 : tzA Try.prog 51 = (some (AV.v Value.nilFunc) : Option AV) := by kernel_rfl
@[go_sem] theorem tund_52 : tund Try.prog 52 = true := by kernel_rfl
@[go_sem] theorem tsz_52 : tsz Try.prog 52 = 1 := by kernel_rfl
@[go_sem] theorem tel_52 : tel Try.prog 52 = (none : Option TypeId) := by kernel_rfl
@[go_sem] theorem tarr_52 : tarr Try.prog 52 = (none : Option (Nat × TypeId)) := by kernel_rfl
@[go_sem] theorem tfld_52 : tfld Try.prog 52 = (none : Option (List (Nat × TypeId))) := by kernel_rfl
@[go_sem] theorem tint_52 : tint Try.prog 52 = (none : Option IntKind) := by kernel_rfl
@[go_sem] theorem tstr_52 : tstr Try.prog 52 = false := by kernel_rfl
@[go_sem] theorem tagg_52 : tagg Try.prog 52 = (some false : Option Bool) := by kernel_rfl
@[go_sem] theorem tby_52 : tby Try.prog 52 = 8 := by kernel_rfl
@[go_sem] theorem tkind_52 : tkind Try.prog 52 = (none : Option Nat) := by kernel_rfl
@[go_sem] theorem teq_52 : teq Try.prog 52 = (none : Option (List Nat)) := by kernel_rfl
@[go_sem] theorem tpt_52 : tpt Try.prog 52 = false := by kernel_rfl
@[go_sem] theorem tzA_52 : tzA Try.prog 52 = (some (AV.v Value.nilFunc) : Option AV) := by kernel_rfl
@[go_sem] theorem tund_53 : tund Try.prog 53 = true := by kernel_rfl
@[go_sem] theorem tsz_53 : tsz Try.prog 53 = 1 := by kernel_rfl
@[go_sem] theorem tel_53 : tel Try.prog 53 = (none : Option TypeId) := by kernel_rfl
@[go_sem] theorem tarr_53 : tarr Try.prog 53 = (none : Option (Nat × TypeId)) := by kernel_rfl
@[go_sem] theorem tfld_53 : tfld Try.prog 53 = (none : Option (List (Nat × TypeId))) := by kernel_rfl
@[go_sem] theorem tint_53 : tint Try.prog 53 = (none : Option IntKind) := by kernel_rfl
@[go_sem] theorem tstr_53 : tstr Try.prog 53 = false := by kernel_rfl
@[go_sem] theorem tagg_53 : tagg Try.prog 53 = (some false : Option Bool) := by kernel_rfl
@[go_sem] theorem tby_53 : tby Try.prog 53 = 8 := by kernel_rfl
@[go_sem] theorem tkind_53 : tkind Try.prog 53 = (none : Option Nat) := by kernel_rfl
@[go_sem] theorem teq_53 : teq Try.prog 53 = (none : Option (List Nat)) := by kernel_rfl
@[go_sem] theorem tpt_53 : tpt Try.prog 53 = false := by kernel_rfl
@[go_sem] theorem tzA_53 : tzA Try.prog 53 = (some (AV.v Value.nilFunc) : Option AV) := by kernel_rfl
@[go_sem] theorem tund_54 : tund Try.prog 54 = true := by kernel_rfl
@[go_sem] theorem tsz_54 : tsz Try.prog 54 = 1 := by kernel_rfl
@[go_sem] theorem tel_54 : tel Try.prog 54 = (none : Option TypeId) := by kernel_rfl
@[go_sem] theorem tarr_54 : tarr Try.prog 54 = (none : Option (Nat × TypeId)) := by kernel_rfl
@[go_sem] theorem tfld_54 : tfld Try.prog 54 = (none : Option (List (Nat × TypeId))) := by kernel_rfl
@[go_sem] theorem tint_54 : tint Try.prog 54 = (none : Option IntKind) := by kernel_rfl
@[go_sem] theorem tstr_54 : tstr Try.prog 54 = false := by kernel_rfl
@[go_sem] theorem tagg_54 : tagg Try.prog 54 = (some false : Option Bool) := by kernel_rfl
@[go_sem] theorem tby_54 : tby Try.prog 54 = 8 := by kernel_rfl
@[go_sem] theorem tkind_54 : tkind Try.prog 54 = (none : Option Nat) := by kernel_rfl
@[go_sem] theorem teq_54 : teq Try.prog 54 = (none : Option (List Nat)) := by kernel_rfl
@[go_sem] theorem tpt_54 : tpt Try.prog 54 = false := by kernel_rfl
@[go_sem] theorem tzA_54 : tzA Try.prog 54 = (some (AV.v Value.nilFunc) : Option AV) := by kernel_rfl
@[go_sem] theorem tund_55 : tund Try.prog 55 = true := by kernel_rfl
@[go_sem] theorem tsz_55 : tsz Try.prog 55 = 4 := by kernel_rfl
@[go_sem] theorem tel_55 : tel Try.prog 55 = (none : Option TypeId) := by kernel_rfl
@[go_sem] theorem tarr_55 : tarr Try.prog 55 = (none : Option (Nat × TypeId)) := by kernel_rfl
@[go_sem] theorem tfld_55 : tfld Try.prog 55 = (some [(0, 3), (1, 3), (2, 3), (3, 3)] : Option (List (Nat × TypeId))) := by kernel_rfl
@[go_sem] theorem tint_55 : tint Try.prog 55 = (none : Option IntKind) := by kernel_rfl
@[go_sem] theorem tstr_55 : tstr Try.prog 55 = false := by kernel_rfl
@[go_sem] theorem tagg_55 : tagg Try.prog 55 = (some true : Option Bool) := by kernel_rfl
@[go_sem] theorem tby_55 : tby Try.prog 55 = 32 := by kernel_rfl
@[go_sem] theorem tkind_55 : tkind Try.prog 55 = (none : Option Nat) := by kernel_rfl
@[go_sem] theorem teq_55 : teq Try.prog 55 = (some [0, 0, 0, 0] : Option (List Nat)) := by kernel_rfl
@[go_sem] theorem tpt_55 : tpt Try.prog 55 = false := by kernel_rfl
@[go_sem] theorem tzA_55 : tzA Try.prog 55 = (some (AV.agg [AV.v (Value.int IntKind.i64 (0)), AV.v (Value.int IntKind.i64 (0)), AV.v (Value.int IntKind.i64 (0)), AV.v (Value.int IntKind.i64 (0))]) : Option AV) := by kernel_rfl
@[go_sem] theorem tund_56 : tund Try.prog 56 = true := by kernel_rfl
@[go_sem] theorem tsz_56 : tsz Try.prog 56 = 4 := by kernel_rfl
@[go_sem] theorem tel_56 : tel Try.prog 56 = (none : Option TypeId) := by kernel_rfl
@[go_sem] theorem tarr_56 : tarr Try.prog 56 = (none : Option (Nat × TypeId)) := by kernel_rfl
@[go_sem] theorem tfld_56 : tfld Try.prog 56 = (some [(0, 3), (1, 3), (2, 3), (3, 3)] : Option (List (Nat × TypeId))) := by kernel_rfl
@[go_sem] theorem tint_56 : tint Try.prog 56 = (none : Option IntKind) := by kernel_rfl
@[go_sem] theorem tstr_56 : tstr Try.prog 56 = false := by kernel_rfl
@[go_sem] theorem tagg_56 : tagg Try.prog 56 = (some true : Option Bool) := by kernel_rfl
@[go_sem] theorem tby_56 : tby Try.prog 56 = 32 := by kernel_rfl
@[go_sem] theorem tkind_56 : tkind Try.prog 56 = (none : Option Nat) := by kernel_rfl
@[go_sem] theorem teq_56 : teq Try.prog 56 = (some [0, 0, 0, 0] : Option (List Nat)) := by kernel_rfl
@[go_sem] theorem tpt_56 : tpt Try.prog 56 = false := by kernel_rfl
@[go_sem] theorem tzA_56 : tzA Try.prog 56 = (some (AV.agg [AV.v (Value.int IntKind.i64 (0)), AV.v (Value.int IntKind.i64 (0)), AV.v (Value.int IntKind.i64 (0)), AV.v (Value.int IntKind.i64 (0))]) : Option AV) := by kernel_rfl
@[go_sem] theorem tund_57 : tund Try.prog 57 = true := by kernel_rfl
@[go_sem] theorem tsz_57 : tsz Try.prog 57 = 1 := by kernel_rfl
@[go_sem] theorem tel_57 : tel Try.prog 57 = (none : Option TypeId) := by kernel_rfl
@[go_sem] theorem tarr_57 : tarr Try.prog 57 = (none : Option (Nat × TypeId)) := by kernel_rfl
@[go_sem] theorem tfld_57 : tfld Try.prog 57 = (none : Option (List (Nat × TypeId))) := by kernel_rfl
@[go_sem] theorem tint_57 : tint Try.prog 57 = (none : Option IntKind) := by kernel_rfl
@[go_sem] theorem tstr_57 : tstr Try.prog 57 = false := by kernel_rfl
@[go_sem] theorem tagg_57 : tagg Try.prog 57 = (some false : Option Bool) := by kernel_rfl
@[go_sem] theorem tby_57 : tby Try.prog 57 = 8 := by kernel_rfl
@[go_sem] theorem tkind_57 : tkind Try.prog 57 = (none : Option Nat) := by kernel_rfl
@[go_sem] theorem teq_57 : teq Try.prog 57 = (none : Option (List Nat)) := by kernel_rfl
@[go_sem] theorem tpt_57 : tpt Try.prog 57 = false := by kernel_rfl
@[go_sem] theorem tzA_57 : tzA Try.prog 57 = (some (AV.v Value.nilFunc) : Option AV) := by kernel_rfl
@[go_sem] theorem tund_58 : tund Try.prog 58 = true := by kernel_rfl
@[go_sem] theorem tsz_58 : tsz Try.prog 58 = 2 := by kernel_rfl
@[go_sem] theorem tel_58 : tel Try.prog 58 = (none : Option TypeId) := by kernel_rfl
@[go_sem] theorem tarr_58 : tarr Try.prog 58 = (some (2, 3) : Option (Nat × TypeId)) := by kernel_rfl
@[go_sem] theorem tfld_58 : tfld Try.prog 58 = (none : Option (List (Nat × TypeId))) := by kernel_rfl
@[go_sem] theorem tint_58 : tint Try.prog 58 = (none : Option IntKind) := by kernel_rfl
@[go_sem] theorem tstr_58 : tstr Try.prog 58 = false := by kernel_rfl
@[go_sem] theorem tagg_58 : tagg Try.prog 58 = (some true : Option Bool) := by kernel_rfl
@[go_sem] theorem tby_58 : tby Try.prog 58 = 16 := by kernel_rfl
@[go_sem] theorem tkind_58 : tkind Try.prog 58 = (none : Option Nat) := by kernel_rfl
@[go_sem] theorem teq_58 : teq Try.prog 58 = (none : Option (List Nat)) := by kernel_rfl
@[go_sem] theorem tpt_58 : tpt Try.prog 58 = false := by kernel_rfl
@[go_sem] theorem tzA_58 : tzA Try.prog 58 = (some (AV.agg [AV.v (Value.int IntKind.i64 (0)), AV.v (Value.int IntKind.i64 (0))]) : Option AV) := by kernel_rfl
@[go_sem] theorem tund_59 : tund Try.prog 59 = true := by kernel_rfl
@[go_sem] theorem tsz_59 : tsz Try.prog 59 = 1 := by kernel_rfl
@[go_sem] theorem tel_59 : tel Try.prog 59 = (none : Option TypeId) := by kernel_rfl
@[go_sem] theorem tarr_59 : tarr Try.prog 59 = (none : Option (Nat × TypeId)) := by kernel_rfl
@[go_sem] theorem tfld_59 : tfld Try.prog 59 = (none : Option (List (Nat × TypeId))) := by kernel_rfl
@[go_sem] theorem tint_59 : tint Try.prog 59 = (none : Option IntKind) := by kernel_rfl
@[go_sem] theorem tstr_59 : tstr Try.prog 59 = false := by kernel_rfl
@[go_sem] theorem tagg_59 : tagg Try.prog 59 = (some false : Option Bool) := by kernel_rfl
@[go_sem] theorem tby_59 : tby Try.prog 59 = 8 := by kernel_rfl
@[go_sem] theorem tkind_59 : tkind Try.prog 59 = (none : Option Nat) := by kernel_rfl
@[go_sem] theorem teq_59 : teq Try.prog 59 = (none : Option (List Nat)) := by kernel_rfl
@[go_sem] theorem tpt_59 : tpt Try.prog 59 = false := by kernel_rfl
@[go_sem] theorem tzA_59 : tzA Try.prog 59 = (some (AV.v Value.nilFunc) : Option AV) := by kernel_rfl
@[go_sem] theorem tund_60 : tund Try.prog 60 = true := by kernel_rfl
@[go_sem] theorem tsz_60 : tsz Try.prog 60 = 1 := by kernel_rfl
@[go_sem] theorem tel_60 : tel Try.prog 60 = (none : Option TypeId) := by kernel_rfl
@[go_sem] theorem tarr_60 : tarr Try.prog 60 = (none : Option (Nat × TypeId)) := by kernel_rfl
@[go_sem] theorem tfld_60 : tfld Try.prog 60 = (none : Option (List (Nat × TypeId))) := by kernel_rfl
@[go_sem] theorem tint_60 : tint Try.prog 60 = (none : Option IntKind) := by kernel_rfl
@[go_sem] theorem tstr_60 : tstr Try.prog 60 = false := by kernel_rfl
@[go_sem] theorem tagg_60 : tagg Try.prog 60 = (some false : Option Bool) := by kernel_rfl
@[go_sem] theorem tby_60 : tby Try.prog 60 = 8 := by kernel_rfl
@[go_sem] theorem tkind_60 : tkind Try.prog 60 = (none : Option Nat) := by kernel_rfl
@[go_sem] theorem teq_60 : teq Try.prog 60 = (none : Option (List Nat)) := by kernel_rfl
@[go_sem] theorem tpt_60 : tpt Try.prog 60 = false := by kernel_rfl
@[go_sem] theorem tzA_60 : tzA Try.prog 60 = (some (AV.v Value.nilFunc) : Option AV) := by kernel_rfl
@[go_sem] theorem tund_61 : tund Try.prog 61 = true := by kernel_rfl
@[go_sem] theorem tsz_61 : tsz Try.prog 61 = 1 := by kernel_rfl
@[go_sem] theorem tel_61 : tel Try.prog 61 = (none : Option TypeId) := by kernel_rfl
@[go_sem] theorem tarr_61 : tarr Try.prog 61 = (none : Option (Nat × TypeId)) := by kernel_rfl
@[go_sem] theorem tfld_61 : tfld Try.prog 61 = (none : Option (List (Nat × TypeId))) := by kernel_rfl
@[go_sem] theorem tint_61 : tint Try.prog 61 = (none : Option IntKind) := by kernel_rfl
@[go_sem] theorem tstr_61 : tstr Try.prog 61 = false := by kernel_rfl
@[go_sem] theorem tagg_61 : tagg Try.prog 61 = (some false : Option Bool) := by kernel_rfl
@[go_sem] theorem tby_61 : tby Try.prog 61 = 8 := by kernel_rfl
@[go_sem] theorem tkind_61 : tkind Try.prog 61 = (none : Option Nat) := by kernel_rfl
@[go_sem] theorem teq_61 : teq Try.prog 61 = (none : Option (List Nat)) := by kernel_rfl
@[go_sem] theorem tpt_61 : tpt Try.prog 61 = true := by kernel_rfl
@[go_sem] theorem tzA_61 : tzA Try.prog 61 = (some (AV.v (Value.pointer none)) : Option AV) := by kernel_rfl
@[go_sem] theorem tund_62 : tund Try.prog 62 = true := by kernel_rfl
@[go_sem] theorem tsz_62 : tsz Try.prog 62 = 1 := by kernel_rfl
@[go_sem] theorem tel_62 : tel Try.prog 62 = (none : Option TypeId) := by kernel_rfl
@[go_sem] theorem tarr_62 : tarr Try.prog 62 = (none : Option (Nat × TypeId)) := by kernel_rfl
@[go_sem] theorem tfld_62 : tfld Try.prog 62 = (none : Option (List (Nat × TypeId))) := by kernel_rfl
@[go_sem] theorem tint_62 : tint Try.prog 62 = (none : Option IntKind) := by kernel_rfl
@[go_sem] theorem tstr_62 : tstr Try.prog 62 = false := by kernel_rfl
@[go_sem] theorem tagg_62 : tagg Try.prog 62 = (some false : Option Bool) := by kernel_rfl
@[go_sem] theorem tby_62 : tby Try.prog 62 = 8 := by kernel_rfl
@[go_sem] theorem tkind_62 : tkind Try.prog 62 = (none : Option Nat) := by kernel_rfl
@[go_sem] theorem teq_62 : teq Try.prog 62 = (none : Option (List Nat)) := by kernel_rfl
@[go_sem] theorem tpt_62 : tpt Try.prog 62 = false := by kernel_rfl
@[go_sem] theorem tzA_62 : tzA Try.prog 62 = (some (AV.v Value.nilFunc) : Option AV) := by kernel_rfl
@[go_sem] theorem tund_63 : tund Try.prog 63 = true := by kernel_rfl
@[go_sem] theorem tsz_63 : tsz Try.prog 63 = 1 := by kernel_rfl
@[go_sem] theorem tel_63 : tel Try.prog 63 = (none : Option TypeId) := by kernel_rfl
@[go_sem] theorem tarr_63 : tarr Try.prog 63 = (none : Option (Nat × TypeId)) := by kernel_rfl
@[go_sem] theorem tfld_63 : tfld Try.prog 63 = (none : Option (List (Nat × TypeId))) := by kernel_rfl
@[go_sem] theorem tint_63 : tint Try.prog 63 = (none : Option IntKind) := by kernel_rfl
@[go_sem] theorem tstr_63 : tstr Try.prog 63 = false := by kernel_rfl
@[go_sem] theorem tagg_63 : tagg Try.prog 63 = (some false : Option Bool) := by kernel_rfl
@[go_sem] theorem tby_63 : tby Try.prog 63 = 8 := by kernel_rfl
@[go_sem] theorem tkind_63 : tkind Try.prog 63 = (none : Option Nat) := by kernel_rfl
@[go_sem] theorem teq_63 : teq Try.prog 63 = (none : Option (List Nat)) := by kernel_rfl
@[go_sem] theorem tpt_63 : tpt Try.prog 63 = false := by kernel_rfl
@[go_sem] theorem tzA_63 : tzA Try.prog 63 = (some (AV.v Value.nilFunc) : Option AV) := by kernel_rfl
@[go_sem] theorem tund_64 : tund Try.prog 64 = true := by kernel_rfl
@[go_sem] theorem tsz_64 : tsz Try.prog 64 = 1 := by kernel_rfl
@[go_sem] theorem tel_64 : tel Try.prog 64 = (none : Option TypeId) := by kernel_rfl
@[go_sem] theorem tarr_64 : tarr Try.prog 64 = (none : Option (Nat × TypeId)) := by kernel_rfl
@[go_sem] theorem tfld_64 : tfld Try.prog 64 = (none : Option (List (Nat × TypeId))) := by kernel_rfl
@[go_sem] theorem tint_64 : tint Try.prog 64 = (none : Option IntKind) := by kernel_rfl
@[go_sem] theorem tstr_64 : tstr Try.prog 64 = false := by kernel_rfl
@[go_sem] theorem tagg_64 : tagg Try.prog 64 = (some false : Option Bool) := by kernel_rfl
@[go_sem] theorem tby_64 : tby Try.prog 64 = 8 := by kernel_rfl
@[go_sem] theorem tkind_64 : tkind Try.prog 64 = (none : Option Nat) := by kernel_rfl
@[go_sem] theorem teq_64 : teq Try.prog 64 = (none : Option (List Nat)) := by kernel_rfl
@[go_sem] theorem tpt_64 : tpt Try.prog 64 = false := by kernel_rfl
@[go_sem] theorem tzA_64 : tzA Try.prog 64 = (some (AV.v Value.nilFunc) : Option AV) := by kernel_rfl
@[go_sem] theorem tund_65 : tund Try.prog 65 = true := by kernel_rfl
@[go_sem] theorem tsz_65 : tsz Try.prog 65 = 8 := by kernel_rfl
@[go_sem] theorem tel_65 : tel Try.prog 65 = (none : Option TypeId) := by kernel_rfl
@[go_sem] theorem tarr_65 : tarr Try.prog 65 = (some (8, 3) : Option (Nat × TypeId)) := by kernel_rfl
@[go_sem] theorem tfld_65 : tfld Try.prog 65 = (none : Option (List (Nat × TypeId))) := by kernel_rfl
@[go_sem] theorem tint_65 : tint Try.prog 65 = (none : Option IntKind) := by kernel_rfl
@[go_sem] theorem tstr_65 : tstr Try.prog 65 = false := by kernel_rfl
@[go_sem] theorem tagg_65 : tagg Try.prog 65 = (some true : Option Bool) := by kernel_rfl
@[go_sem] theorem tby_65 : tby Try.prog 65 = 64 := by kernel_rfl
@[go_sem] theorem tkind_65 : tkind Try.prog 65 = (none : Option Nat) := by kernel_rfl
@[go_sem] theorem teq_65 : teq Try.prog 65 = (none : Option (List Nat)) := by kernel_rfl
@[go_sem] theorem tpt_65 : tpt Try.prog 65 = false := by kernel_rfl
@[go_sem] theorem tzA_65 : tzA Try.prog 65 = (some (AV.agg [AV.v (Value.int IntKind.i64 (0)), AV.v (Value.int IntKind.i64 (0)), AV.v (Value.int IntKind.i64 (0)), AV.v (Value.int IntKind.i64 (0)), AV.v (Value.int IntKind.i64 (0)), AV.v (Value.int IntKind.i64 (0)), AV.v (Value.int IntKind.i64 (0)), AV.v (Value.int IntKind.i64 (0))]) : Option AV) := by kernel_rfl
@[go_sem] theorem tund_66 : tund Try.prog 66 = true := by kernel_rfl
@[go_sem] theorem tsz_66 : tsz Try.prog 66 = 1 := by kernel_rfl
@[go_sem] theorem tel_66 : tel Try.prog 66 = (none : Option TypeId) := by kernel_rfl
@[go_sem] theorem tarr_66 : tarr Try.prog 66 = (none : Option (Nat × TypeId)) := by kernel_rfl
@[go_sem] theorem tfld_66 : tfld Try.prog 66 = (none : Option (List (Nat × TypeId))) := by kernel_rfl
@[go_sem] theorem tint_66 : tint Try.prog 66 = (none : Option IntKind) := by kernel_rfl
@[go_sem] theorem tstr_66 : tstr Try.prog 66 = false := by kernel_rfl
@[go_sem] theorem tagg_66 : tagg Try.prog 66 = (some false : Option Bool) := by kernel_rfl
@[go_sem] theorem tby_66 : tby Try.prog 66 = 8 := by kernel_rfl
@[go_sem] theorem tkind_66 : tkind Try.prog 66 = (none : Option Nat) := by kernel_rfl
@[go_sem] theorem teq_66 : teq Try.prog 66 = (none : Option (List Nat)) := by kernel_rfl
@[go_sem] theorem tpt_66 : tpt Try.prog 66 = false := by kernel_rfl
@[go_sem] theorem tzA_66 : tzA Try.prog 66 = (some (AV.v Value.nilFunc) : Option AV) := by kernel_rfl
@[go_sem] theorem tund_67 : tund Try.prog 67 = true := by kernel_rfl
@[go_sem] theorem tsz_67 : tsz Try.prog 67 = 1 := by kernel_rfl
@[go_sem] theorem tel_67 : tel Try.prog 67 = (none : Option TypeId) := by kernel_rfl
@[go_sem] theorem tarr_67 : tarr Try.prog 67 = (none : Option (Nat × TypeId)) := by kernel_rfl
@[go_sem] theorem tfld_67 : tfld Try.prog 67 = (none : Option (List (Nat × TypeId))) := by kernel_rfl
@[go_sem] theorem tint_67 : tint Try.prog 67 = (none : Option IntKind) := by kernel_rfl
@[go_sem] theorem tstr_67 : tstr Try.prog 67 = false := by kernel_rfl
@[go_sem] theorem tagg_67 : tagg Try.prog 67 = (some false : Option Bool) := by kernel_rfl
@[go_sem] theorem tby_67 : tby Try.prog 67 = 8 := by kernel_rfl
@[go_sem] theorem tkind_67 : tkind Try.prog 67 = (none : Option Nat) := by kernel_rfl
@[go_sem] theorem teq_67 : teq Try.prog 67 = (none : Option (List Nat)) := by kernel_rfl
@[go_sem] theorem tpt_67 : tpt Try.prog 67 = false := by kernel_rfl
@[go_sem] theorem tzA_67 : tzA Try.prog 67 = (some (AV.v Value.nilFunc) : Option AV) := by kernel_rfl
@[go_sem] theorem tund_68 : tund Try.prog 68 = true := by kernel_rfl
@[go_sem] theorem tsz_68 : tsz Try.prog 68 = 1 := by kernel_rfl
@[go_sem] theorem tel_68 : tel Try.prog 68 = (none : Option TypeId) := by kernel_rfl
@[go_sem] theorem tarr_68 : tarr Try.prog 68 = (none : Option (Nat × TypeId)) := by kernel_rfl
@[go_sem] theorem tfld_68 : tfld Try.prog 68 = (none : Option (List (Nat × TypeId))) := by kernel_rfl
@[go_sem] theorem tint_68 : tint Try.prog 68 = (none : Option IntKind) := by kernel_rfl
@[go_sem] theorem tstr_68 : tstr Try.prog 68 = false := by kernel_rfl
@[go_sem] theorem tagg_68 : tagg Try.prog 68 = (some false : Option Bool) := by kernel_rfl
@[go_sem] theorem tby_68 : tby Try.prog 68 = 8 := by kernel_rfl
@[go_sem] theorem tkind_68 : tkind Try.prog 68 = (none : Option Nat) := by kernel_rfl
@[go_sem] theorem teq_68 : teq Try.prog 68 = (none : Option (List Nat)) := by kernel_rfl
@[go_sem] theorem tpt_68 : tpt Try.prog 68 = false := by kernel_rfl
@[go_sem] theorem tzA_68 : tzA Try.prog 68 = (some (AV.v Value.nilFunc) : Option AV) := by kernel_rfl
@[go_sem] theorem tund_69 : tund Try.prog 69 = true := by kernel_rfl
@[go_sem] theorem tsz_69 : tsz Try.prog 69 = 1 := by kernel_rfl
@[go_sem] theorem tel_69 : tel Try.prog 69 = (none : Option TypeId) := by kernel_rfl
@[go_sem] theorem tarr_69 : tarr Try.prog 69 = (none : Option (Nat × TypeId)) := by kernel_rfl
@[go_sem] theorem tfld_69 : tfld Try.prog 69 = (none : Option (List (Nat × TypeId))) := by kernel_rfl
@[go_sem] theorem tint_69 : tint Try.prog 69 = (none : Option IntKind) := by kernel_rfl
@[go_sem] theorem tstr_69 : tstr Try.prog 69 = false := by kernel_rfl
@[go_sem] theorem tagg_69 : tagg Try.prog 69 = (some false : Option Bool) := by kernel_rfl
@[go_sem] theorem tby_69 : tby Try.prog 69 = 8 := by kernel_rfl
@[go_sem] theorem tkind_69 : tkind Try.prog 69 = (none : Option Nat) := by kernel_rfl
@[go_sem] theorem teq_69 : teq Try.prog 69 = (none : Option (List Nat)) := by kernel_rfl
@[go_sem] theorem tpt_69 : tpt Try.prog 69 = false := by kernel_rfl
@[go_sem] theorem tzA_69 : tzA Try.prog 69 = (some (AV.v Value.nilFunc) : Option AV) := by kernel_rfl
@[go_sem] theorem tund_70 : tund Try.prog 70 = true := by kernel_rfl
@[go_sem] theorem tsz_70 : tsz Try.prog 70 = 1 := by kernel_rfl
@[go_sem] theorem tel_70 : tel Try.prog 70 = (none : Option TypeId) := by kernel_rfl
@[go_sem] theorem tarr_70 : tarr Try.prog 70 = (none : Option (Nat × TypeId)) := by kernel_rfl
@[go_sem] theorem tfld_70 : tfld Try.prog 70 = (none : Option (List (Nat × TypeId))) := by kernel_rfl
@[go_sem] theorem tint_70 : tint Try.prog 70 = (none : Option IntKind) := by kernel_rfl
@[go_sem] theorem tstr_70 : tstr Try.prog 70 = false := by kernel_rfl
@[go_sem] theorem tagg_70 : tagg Try.prog 70 = (some false : Option Bool) := by kernel_rfl
@[go_sem] theorem tby_70 : tby Try.prog 70 = 8 := by kernel_rfl
@[go_sem] theorem tkind_70 : tkind Try.prog 70 = (none : Option Nat) := by kernel_rfl
@[go_sem] theorem teq_70 : teq Try.prog 70 = (none : Option (List Nat)) := by kernel_rfl
@[go_sem] theorem tpt_70 : tpt Try.prog 70 = false := by kernel_rfl
@[go_sem] theorem tzA_70 : tzA Try.prog 70 = (some (AV.v Value.nilFunc) : Option AV) := by kernel_rfl
@[go_sem] theorem tund_71 : tund Try.prog 71 = true := by kernel_rfl
@[go_sem] theorem tsz_71 : tsz Try.prog 71 = 1 := by kernel_rfl
@[go_sem] theorem tel_71 : tel Try.prog 71 = (none : Option TypeId) := by kernel_rfl
@[go_sem] theorem tarr_71 : tarr Try.prog 71 = (none : Option (Nat × TypeId)) := by kernel_rfl
@[go_sem] theorem tfld_71 : tfld Try.prog 71 = (none : Option (List (Nat × TypeId))) := by kernel_rfl
@[go_sem] theorem tint_71 : tint Try.prog 71 = (none : Option IntKind) := by kernel_rfl
@[go_sem] theorem tstr_71 : tstr Try.prog 71 = false := by kernel_rfl
@[go_sem] theorem tagg_71 : tagg Try.prog 71 = (some false : Option Bool) := by kernel_rfl
@[go_sem] theorem tby_71 : tby Try.prog 71 = 8 := by kernel_rfl
@[go_sem] theorem tkind_71 : tkind Try.prog 71 = (none : Option Nat) := by kernel_rfl
@[go_sem] theorem teq_71 : teq Try.prog 71 = (none : Option (List Nat)) := by kernel_rfl
@[go_sem] theorem tpt_71 : tpt Try.prog 71 = false := by kernel_rfl
@[go_sem] theorem tzA_71 : tzA Try.prog 71 = (some (AV.v Value.nilFunc) : Option AV) := by kernel_rfl
@[go_sem] theorem tund_72 : tund Try.prog 72 = true := by kernel_rfl
@[go_sem] theorem tsz_72 : tsz Try.prog 72 = 1 := by kernel_rfl
@[go_sem] theorem tel_72 : tel Try.prog 72 = (none : Option TypeId) := by kernel_rfl
@[go_sem] theorem tarr_72 : tarr Try.prog 72 = (none : Option (Nat × TypeId)) := by kernel_rfl
@[go_sem] theorem tfld_72 : tfld Try.prog 72 = (none : Option (List (Nat × TypeId))) := by kernel_rfl
@[go_sem] theorem tint_72 : tint Try.prog 72 = (none : Option IntKind) := by kernel_rfl
@[go_sem] theorem tstr_72 : tstr Try.prog 72 = false := by kernel_rfl
@[go_sem] theorem tagg_72 : tagg Try.prog 72 = (some false : Option Bool) := by kernel_rfl
@[go_sem] theorem tby_72 : tby Try.prog 72 = 8 := by kernel_rfl
@[go_sem] theorem tkind_72 : tkind Try.prog 72 = (none : Option Nat) := by kernel_rfl
@[go_sem] theorem teq_72 : teq Try.prog 72 = (none : Option (List Nat)) := by kernel_rfl
@[go_sem] theorem tpt_72 : tpt Try.prog 72 = false := by kernel_rfl
@[go_sem] theorem tzA_72 : tzA Try.prog 72 = (some (AV.v Value.nilFunc) : Option AV) := by kernel_rfl
@[go_sem] theorem tund_73 : tund Try.prog 73 = true := by kernel_rfl
@[go_sem] theorem tsz_73 : tsz Try.prog 73 = 1 := by kernel_rfl
@[go_sem] theorem tel_73 : tel Try.prog 73 = (none : Option TypeId) := by kernel_rfl
@[go_sem] theorem tarr_73 : tarr Try.prog 73 = (none : Option (Nat × TypeId)) := by kernel_rfl
@[go_sem] theorem tfld_73 : tfld Try.prog 73 = (none : Option (List (Nat × TypeId))) := by kernel_rfl
@[go_sem] theorem tint_73 : tint Try.prog 73 = (none : Option IntKind) := by kernel_rfl
@[go_sem] theorem tstr_73 : tstr Try.prog 73 = false := by kernel_rfl
@[go_sem] theorem tagg_73 : tagg Try.prog 73 = (some false : Option Bool) := by kernel_rfl
@[go_sem] theorem tby_73 : tby Try.prog 73 = 8 := by kernel_rfl
@[go_sem] theorem tkind_73 : tkind Try.prog 73 = (none : Option Nat) := by kernel_rfl
@[go_sem] theorem teq_73 : teq Try.prog 73 = (none : Option (List Nat)) := by kernel_rfl
@[go_sem] theorem tpt_73 : tpt Try.prog 73 = false := by kernel_rfl
@[go_sem] theorem tzA_73 : tzA Try.prog 73 = (some (AV.v Value.nilFunc) : Option AV) := by kernel_rfl
@[go_sem] theorem tund_74 : tund Try.prog 74 = true := by kernel_rfl
@[go_sem] theorem tsz_74 : tsz Try.prog 74 = 1 := by kernel_rfl
@[go_sem] theorem tel_74 : tel Try.prog 74 = (none : Option TypeId) := by kernel_rfl
@[go_sem] theorem tarr_74 : tarr Try.prog 74 = (none : Option (Nat × TypeId)) := by kernel_rfl
@[go_sem] theorem tfld_74 : tfld Try.prog 74 = (none : Option (List (Nat × TypeId))) := by kernel_rfl
@[go_sem] theorem tint_74 : tint Try.prog 74 = (none : Option IntKind) := by kernel_rfl
@[go_sem] theorem tstr_74 : tstr Try.prog 74 = false := by kernel_rfl
@[go_sem] theorem tagg_74 : tagg Try.prog 74 = (some false : Option Bool) := by kernel_rfl
@[go_sem] theorem tby_74 : tby Try.prog 74 = 8 := by kernel_rfl
@[go_sem] theorem tkind_74 : tkind Try.prog 74 = (none : Option Nat) := by kernel_rfl
@[go_sem] theorem teq_74 : teq Try.prog 74 = (none : Option (List Nat)) := by kernel_rfl
@[go_sem] theorem tpt_74 : tpt Try.prog 74 = false := by kernel_rfl
@[go_sem] theorem tzA_74 : tzA Try.prog 74 = (some (AV.v Value.nilFunc) : Option AV) := by kernel_rfl
@[go_sem] theorem tund_75 : tund Try.prog 75 = true := by kernel_rfl
@[go_sem] theorem tsz_75 : tsz Try.prog 75 = 1 := by kernel_rfl
@[go_sem] theorem tel_75 : tel Try.prog 75 = (none : Option TypeId) := by kernel_rfl
@[go_sem] theorem tarr_75 : tarr Try.prog 75 = (none : Option (Nat × TypeId)) := by kernel_rfl
@[go_sem] theorem tfld_75 : tfld Try.prog 75 = (none : Option (List (Nat × TypeId))) := by kernel_rfl
@[go_sem] theorem tint_75 : tint Try.prog 75 = (none : Option IntKind) := by kernel_rfl
@[go_sem] theorem tstr_75 : tstr Try.prog 75 = false := by kernel_rfl
@[go_sem] theorem tagg_75 : tagg Try.prog 75 = (some false : Option Bool) := by kernel_rfl
@[go_sem] theorem tby_75 : tby Try.prog 75 = 8 := by kernel_rfl
@[go_sem] theorem tkind_75 : tkind Try.prog 75 = (none : Option Nat) := by kernel_rfl
@[go_sem] theorem teq_75 : teq Try.prog 75 = (none : Option (List Nat)) := by kernel_rfl
@[go_sem] theorem tpt_75 : tpt Try.prog 75 = false := by kernel_rfl
@[go_sem] theorem tzA_75 : tzA Try.prog 75 = (some (AV.v Value.nilFunc) : Option AV) := by kernel_rfl
@[go_sem] theorem tund_76 : tund Try.prog 76 = true := by kernel_rfl
@[go_sem] theorem tsz_76 : tsz Try.prog 76 = 3 := by kernel_rfl
@[go_sem] theorem tel_76 : tel Try.prog 76 = (none : Option TypeId) := by kernel_rfl
@[go_sem] theorem tarr_76 : tarr Try.prog 76 = (none : Option (Nat × TypeId)) := by kernel_rfl
@[go_sem] theorem tfld_76 : tfld Try.prog 76 = (some [(0, 33), (2, 3)] : Option (List (Nat × TypeId))) := by kernel_rfl
@[go_sem] theorem tint_76 : tint Try.prog 76 = (none : Option IntKind) := by kernel_rfl
@[go_sem] theorem tstr_76 : tstr Try.prog 76 = false := by kernel_rfl
@[go_sem] theorem tagg_76 : tagg Try.prog 76 = (some true : Option Bool) := by kernel_rfl
@[go_sem] theorem tby_76 : tby Try.prog 76 = 24 := by kernel_rfl
@[go_sem] theorem tkind_76 : tkind Try.prog 76 = (none : Option Nat) := by kernel_rfl
@[go_sem] theorem teq_76 : teq Try.prog 76 = (some [0, 0, 0] : Option (List Nat)) := by kernel_rfl
@[go_sem] theorem tpt_76 : tpt Try.prog 76 = false := by kernel_rfl
@[go_sem] theorem tzA_76 : tzA Try.prog 76 = (some (AV.agg [AV.v (Value.int IntKind.i64 (0)), AV.v (Value.int IntKind.i64 (0)), AV.v (Value.int IntKind.i64 (0))]) : Option AV) := by kernel_rfl
@[go_sem] theorem tund_77 : tund Try.prog 77 = true := by kernel_rfl
@[go_sem] theorem tsz_77 : tsz Try.prog 77 = 3 := by kernel_rfl
@[go_sem] theorem tel_77 : tel Try.prog 77 = (none : Option TypeId) := by kernel_rfl
@[go_sem] theorem tarr_77 : tarr Try.prog 77 = (none : Option (Nat × TypeId)) := by kernel_rfl
@[go_sem] theorem tfld_77 : tfld Try.prog 77 = (some [(0, 33), (2, 3)] : Option (List (Nat × TypeId))) := by kernel_rfl
@[go_sem] theorem tint_77 : tint Try.prog 77 = (none : Option IntKind) := by kernel_rfl
@[go_sem] theorem tstr_77 : tstr Try.prog 77 = false := by kernel_rfl
@[go_sem] theorem tagg_77 : tagg Try.prog 77 = (some true : Option Bool) := by kernel_rfl
@[go_sem] theorem tby_77 : tby Try.prog 77 = 24 := by kernel_rfl
@[go_sem] theorem tkind_77 : tkind Try.prog 77 = (none : Option Nat) := by kernel_rfl
@[go_sem] theorem teq_77 : teq Try.prog 77 = (some [0, 0, 0] : Option (List Nat)) := by kernel_rfl
@[go_sem] theorem tpt_77 : tpt Try.prog 77 = false := by kernel_rfl
@[go_sem] theorem tzA_77 : tzA Try.prog 77 = (some (AV.agg [AV.v (Value.int IntKind.i64 (0)), AV.v (Value.int IntKind.i64 (0)), AV.v (Value.int IntKind.i64 (0))]) : Option AV) := by kernel_rfl
@[go_sem] theorem tund_78 : tund Try.prog 78 = true := by kernel_rfl
@[go_sem] theorem tsz_78 : tsz Try.prog 78 = 1 := by kernel_rfl
@[go_sem] theorem tel_78 : tel Try.prog 78 = (none : Option TypeId) := by kernel_rfl
@[go_sem] theorem tarr_78 : tarr Try.prog 78 = (none : Option (Nat × TypeId)) := by kernel_rfl
@[go_sem] theorem tfld_78 : tfld Try.prog 78 = (none : Option (List (Nat × TypeId))) := by kernel_rfl
@[go_sem] theorem tint_78 : tint Try.prog 78 = (none : Option IntKind) := by kernel_rfl
@[go_sem] theorem tstr_78 : tstr Try.prog 78 = false := by kernel_rfl
@[go_sem] theorem tagg_78 : tagg Try.prog 78 = (some false : Option Bool) := by kernel_rfl
@[go_sem] theorem tby_78 : tby Try.prog 78 = 8 := by kernel_rfl
@[go_sem] theorem tkind_78 : tkind Try.prog 78 = (none : Option Nat) := by kernel_rfl
@[go_sem] theorem teq_78 : teq Try.prog 78 = (none : Option (List Nat)) := by kernel_rfl
@[go_sem] theorem tpt_78 : tpt Try.prog 78 = false := by kernel_rfl
@[go_sem] theorem tzA_78 : tzA Try.prog 78 = (some (AV.v Value.nilFunc) : Option AV) := by kernel_rfl
@[go_sem] theorem tund_79 : tund Try.prog 79 = true := by kernel_rfl
@[go_sem] theorem tsz_79 : tsz Try.prog 79 = 64 := by kernel_rfl
@[go_sem] theorem tel_79 : tel Try.prog 79 = (none : Option TypeId) := by kernel_rfl
@[go_sem] theorem tarr_79 : tarr Try.prog 79 = (some (8, 65) : Option (Nat × TypeId)) := by kernel_rfl
@[go_sem] theorem tfld_79 : tfld Try.prog 79 = (none : Option (List (Nat × TypeId))) := by kernel_rfl
@[go_sem] theorem tint_79 : tint Try.prog 79 = (none : Option IntKind) := by kernel_rfl
@[go_sem] theorem tstr_79 : tstr Try.prog 79 = false := by kernel_rfl
@[go_sem] theorem tagg_79 : tagg Try.prog 79 = (some true : Option Bool) := by kernel_rfl
@[go_sem] theorem tby_79 : tby Try.prog 79 = 512 := by kernel_rfl
@[go_sem] theorem tkind_79 : tkind Try.prog 79 = (none : Option Nat) := by kernel_rfl
@[go_sem] theorem teq_79 : teq Try.prog 79 = (none : Option (List Nat)) := by kernel_rfl
@[go_sem] theorem tpt_79 : tpt Try.prog 79 = false := by kernel_rfl
@[go_sem] theorem tzA_79 : tzA Try.prog 79 = (some (AV.agg [AV.v (Value.int IntKind.i64 (0)), AV.v (Value.int IntKind.i64 (0)), AV.v (Value.int IntKind.i64 (0)), AV.v (Value.int IntKind.i64 (0)), AV.v (Value.int IntKind.i64 (0)), AV.v (Value.int IntKind.i64 (0)), AV.v (Value.int IntKind.i64 (0)), AV.v (Value.int IntKind.i64 (0)), AV.v (Value.int IntKind.i64 (0)), AV.v (Value.int IntKind.i64 (0)), AV.v (Value.int IntKind.i64 (0)), AV.v (Value.int IntKind.i64 (0)), AV.v (Value.int IntKind.i64 (0)), AV.v (Value.int IntKind.i64 (0)), AV.v (Value.int IntKind.i64 (0)), AV.v (Value.int IntKind.i64 (0)), AV.v (Value.int IntKind.i64 (0)), AV.v (Value.int IntKind.i64 (0)), AV.v (Value.int IntKind.i64 (0)), AV.v (Value.int IntKind.i64 (0)), AV.v (Value.int IntKind.i64 (0)), AV.v (Value.int IntKind.i64 (0)), AV.v (Value.int IntKind.i64 (0)), AV.v (Value.int IntKind.i64 (0)), AV.v (Value.int IntKind.i64 (0)), AV.v (Value.int IntKind.i64 (0)), AV.v (Value.int IntKind.i64 (0)), AV.v (Value.int IntKind.i64 (0)), AV.v (Value.int IntKind.i64 (0)), AV.v (Value.int IntKind.i64 (0)), AV.v (Value.int IntKind.i64 (0)), AV.v (Value.int IntKind.i64 (0)), AV.v (Value.int IntKind.i64 (0)), AV.v (Value.int IntKind.i64 (0)), AV.v (Value.int IntKind.i64 (0)), AV.v (Value.int IntKind.i64 (0)), AV.v (Value.int IntKind.i64 (0)), AV.v (Value.int IntKind.i64 (0)), AV.v (Value.int IntKind.i64 (0)), AV.v (Value.int IntKind.i64 (0)), AV.v (Value.int IntKind.i64 (0)), AV.v (Value.int IntKind.i64 (0)), AV.v (Value.int IntKind.i64 (0)), AV.v (Value.int IntKind.i64 (0)), AV.v (Value.int IntKind.i64 (0)), AV.v (Value.int IntKind.i64 (0)), AV.v (Value.int IntKind.i64 (0)), AV.v (Value.int IntKind.i64 (0)), AV.v (Value.int IntKind.i64 (0)), AV.v (Value.int IntKind.i64 (0)), AV.v (Value.int IntKind.i64 (0)), AV.v (Value.int IntKind.i64 (0)), AV.v (Value.int IntKind.i64 (0)), AV.v (Value.int IntKind.i64 (0)), AV.v (Value.int IntKind.i64 (0)), AV.v (Value.int IntKind.i64 (0)), AV.v (Value.int IntKind.i64 (0)), AV.v (Value.int IntKind.i64 (0)), AV.v (Value.int IntKind.i64 (0)), AV.v (Value.int IntKind.i64 (0)), AV.v (Value.int IntKind.i64 (0)), AV.v (Value.int IntKind.i64 (0)), AV.v (Value.int IntKind.i64 (0)), AV.v (Value.int IntKind.i64 (0))]) : Option AV) := by kernel_rfl
@[go_sem] theorem tund_80 : tund Try.prog 80 = true := by kernel_rfl
@[go_sem] theorem tsz_80 : tsz Try.prog 80 = 64 := by kernel_rfl
@[go_sem] theorem tel_80 : tel Try.prog 80 = (none : Option TypeId) := by kernel_rfl
@[go_sem] theorem tarr_80 : tarr Try.prog 80 = (some (8, 65) : Option (Nat × TypeId)) := by kernel_rfl
@[go_sem] theorem tfld_80 : tfld Try.prog 80 = (none : Option (List (Nat × TypeId))) := by kernel_rfl
@[go_sem] theorem tint_80 : tint Try.prog 80 = (none : Option IntKind) := by kernel_rfl
@[go_sem] theorem tstr_80 : tstr Try.prog 80 = false := by kernel_rfl
@[go_sem] theorem tagg_80 : tagg Try.prog 80 = (some true : Option Bool) := by kernel_rfl
@[go_sem] theorem tby_80 : tby Try.prog 80 = 512 := by kernel_rfl
@[go_sem] theorem tkind_80 : tkind Try.prog 80 = (none : Option Nat) := by kernel_rfl
@[go_sem] theorem teq_80 : teq Try.prog 80 = (none : Option (List Nat)) := by kernel_rfl
@[go_sem] theorem tpt_80 : tpt Try.prog 80 = false := by kernel_rfl
@[go_sem] theorem tzA_80 : tzA Try.prog 80 = (some (AV.agg [AV.v (Value.int IntKind.i64 (0)), AV.v (Value.int IntKind.i64 (0)), AV.v (Value.int IntKind.i64 (0)), AV.v (Value.int IntKind.i64 (0)), AV.v (Value.int IntKind.i64 (0)), AV.v (Value.int IntKind.i64 (0)), AV.v (Value.int IntKind.i64 (0)), AV.v (Value.int IntKind.i64 (0)), AV.v (Value.int IntKind.i64 (0)), AV.v (Value.int IntKind.i64 (0)), AV.v (Value.int IntKind.i64 (0)), AV.v (Value.int IntKind.i64 (0)), AV.v (Value.int IntKind.i64 (0)), AV.v (Value.int IntKind.i64 (0)), AV.v (Value.int IntKind.i64 (0)), AV.v (Value.int IntKind.i64 (0)), AV.v (Value.int IntKind.i64 (0)), AV.v (Value.int IntKind.i64 (0)), AV.v (Value.int IntKind.i64 (0)), AV.v (Value.int IntKind.i64 (0)), AV.v (Value.int IntKind.i64 (0)), AV.v (Value.int IntKind.i64 (0)), AV.v (Value.int IntKind.i64 (0)), AV.v (Value.int IntKind.i64 (0)), AV.v (Value.int IntKind.i64 (0)), AV.v (Value.int IntKind.i64 (0)), AV.v (Value.int IntKind.i64 (0)), AV.v (Value.int IntKind.i64 (0)), AV.v (Value.int IntKind.i64 (0)), AV.v (Value.int IntKind.i64 (0)), AV.v (Value.int IntKind.i64 (0)), AV.v (Value.int IntKind.i64 (0)), AV.v (Value.int IntKind.i64 (0)), AV.v (Value.int IntKind.i64 (0)), AV.v (Value.int IntKind.i64 (0)), AV.v (Value.int IntKind.i64 (0)), AV.v (Value.int IntKind.i64 (0)), AV.v (Value.int IntKind.i64 (0)), AV.v (Value.int IntKind.i64 (0)), AV.v (Value.int IntKind.i64 (0)), AV.v (Value.int IntKind.i64 (0)), AV.v (Value.int IntKind.i64 (0)), AV.v (Value.int IntKind.i64 (0)), AV.v (Value.int IntKind.i64 (0)), AV.v (Value.int IntKind.i64 (0)), AV.v (Value.int IntKind.i64 (0)), AV.v (Value.int IntKind.i64 (0)), AV.v (Value.int IntKind.i64 (0)), AV.v (Value.int IntKind.i64 (0)), AV.v (Value.int IntKind.i64 (0)), AV.v (Value.int IntKind.i64 (0)), AV.v (Value.int IntKind.i64 (0)), AV.v (Value.int IntKind.i64 (0)), AV.v (Value.int IntKind.i64 (0)), AV.v (Value.int IntKind.i64 (0)), AV.v (Value.int IntKind.i64 (0)), AV.v (Value.int IntKind.i64 (0)), AV.v (Value.int IntKind.i64 (0)), AV.v (Value.int IntKind.i64 (0)), AV.v (Value.int IntKind.i64 (0)), AV.v (Value.int IntKind.i64 (0)), AV.v (Value.int IntKind.i64 (0)), AV.v (Value.int IntKind.i64 (0)), AV.v (Value.int IntKind.i64 (0))]) : Option AV) := by kernel_rfl
@[go_sem] theorem tund_81 : tund Try.prog 81 = true := by kernel_rfl
@[go_sem] theorem tsz_81 : tsz Try.prog 81 = 1 := by kernel_rfl
@[go_sem] theorem tel_81 : tel Try.prog 81 = (none : Option TypeId) := by kernel_rfl
@[go_sem] theorem tarr_81 : tarr Try.prog 81 = (none : Option (Nat × TypeId)) := by kernel_rfl
@[go_sem] theorem tfld_81 : tfld Try.prog 81 = (none : Option (List (Nat × TypeId))) := by kernel_rfl
@[go_sem] theorem tint_81 : tint Try.prog 81 = (none : Option IntKind) := by kernel_rfl
@[go_sem] theorem tstr_81 : tstr Try.prog 81 = false := by kernel_rfl
@[go_sem] theorem tagg_81 : tagg Try.prog 81 = (some false : Option Bool) := by kernel_rfl
@[go_sem] theorem tby_81 : tby Try.prog 81 = 8 := by kernel_rfl
@[go_sem] theorem tkind_81 : tkind Try.prog 81 = (none : Option Nat) := by kernel_rfl
@[go_sem] theorem teq_81 : teq Try.prog 81 = (none : Option (List Nat)) := by kernel_rfl
@[go_sem] theorem tpt_81 : tpt Try.prog 81 = false := by kernel_rfl
@[go_sem] theorem tzA_81 : tzA Try.prog 81 = (some (AV.v Value.nilFunc) : Option AV) := by kernel_rfl
@[go_sem] theorem tund_82 : tund Try.prog 82 = true := by kernel_rfl
@[go_sem] theorem tsz_82 : tsz Try.prog 82 = 1 := by kernel_rfl
@[go_sem] theorem tel_82 : tel Try.prog 82 = (none : Option TypeId) := by kernel_rfl
@[go_sem] theorem tarr_82 : tarr Try.prog 82 = (none : Option (Nat × TypeId)) := by kernel_rfl
@[go_sem] theorem tfld_82 : tfld Try.prog 82 = (none : Option (List (Nat × TypeId))) := by kernel_rfl
@[go_sem] theorem tint_82 : tint Try.prog 82 = (none : Option IntKind) := by kernel_rfl
@[go_sem] theorem tstr_82 : tstr Try.prog 82 = false := by kernel_rfl
@[go_sem] theorem tagg_82 : tagg Try.prog 82 = (some false : Option Bool) := by kernel_rfl
@[go_sem] theorem tby_82 : tby Try.prog 82 = 8 := by kernel_rfl
@[go_sem] theorem tkind_82 : tkind Try.prog 82 = (none : Option Nat) := by kernel_rfl
@[go_sem] theorem teq_82 : teq Try.prog 82 = (none : Option (List Nat)) := by kernel_rfl
@[go_sem] theorem tpt_82 : tpt Try.prog 82 = false := by kernel_rfl
@[go_sem] theorem tzA_82 : tzA Try.prog 82 = (some (AV.v Value.nilFunc) : Option AV) := by kernel_rfl
@[go_sem] theorem tund_83 : tund Try.prog 83 = true := by kernel_rfl
@[go_sem] theorem tsz_83 : tsz Try.prog 83 = 256 := by kernel_rfl
@[go_sem] theorem tel_83 : tel Try.prog 83 = (none : Option TypeId) := by kernel_rfl
@[go_sem] theorem tarr_83 : tarr Try.prog 83 = (some (256, 3) : Option (Nat × TypeId)) := by kernel_rfl
@[go_sem] theorem tfld_83 : tfld Try.prog 83 = (none : Option (List (Nat × TypeId))) := by kernel_rfl
@[go_sem] theorem tint_83 : tint Try.prog 83 = (none : Option IntKind) := by kernel_rfl
@[go_sem] theorem tstr_83 : tstr Try.prog 83 = false := by kernel_rfl
@[go_sem] theorem tagg_83 : tagg Try.prog 83 = (some true : Option Bool) := by kernel_rfl
@[go_sem] theorem tby_83 : tby Try.prog 83 = 2048 := by kernel_rfl
@[go_sem] theorem tkind_83 : tkind Try.prog 83 = (none : Option Nat) := by kernel_rfl
@[go_sem] theorem teq_83 : teq Try.prog 83 = (none : Option (List Nat)) := by kernel_rfl
@[go_sem] theorem tpt_83 : tpt Try.prog 83 = false := by kernel_rfl
@[go_sem] theorem tund_84 : tund Try.prog 84 = true := by kernel_rfl
@[go_sem] theorem tsz_84 : tsz Try.prog 84 = 1 := by kernel_rfl
@[go_sem] theorem tel_84 : tel Try.prog 84 = (none : Option TypeId) := by kernel_rfl
@[go_sem] theorem tarr_84 : tarr Try.prog 84 = (none : Option (Nat × TypeId)) := by kernel_rfl
@[go_sem] theorem tfld_84 : tfld Try.prog 84 = (none : Option (List (Nat × TypeId))) := by kernel_rfl
@[go_sem] theorem tint_84 : tint Try.prog 84 = (none : Option IntKind) := by kernel_rfl
@[go_sem] theorem tstr_84 : tstr Try.prog 84 = false := by kernel_rfl
@[go_sem] theorem tagg_84 : tagg Try.prog 84 = (some false : Option Bool) := by kernel_rfl
@[go_sem] theorem tby_84 : tby Try.prog 84 = 8 := by kernel_rfl
@[go_sem] theorem tkind_84 : tkind Try.prog 84 = (none : Option Nat) := by kernel_rfl
@[go_sem] theorem teq_84 : teq Try.prog 84 = (none : Option (List Nat)) := by kernel_rfl
@[go_sem] theorem tpt_84 : tpt Try.prog 84 = false := by kernel_rfl
@[go_sem] theorem tzA_84 : tzA Try.prog 84 = (some (AV.v Value.nilFunc) : Option AV) := by kernel_rfl
@[go_sem] theorem tund_85 : tund Try.prog 85 = true := by kernel_rfl
@[go_sem] theorem tsz_85 : tsz Try.prog 85 = 1 := by kernel_rfl
@[go_sem] theorem tel_85 : tel Try.prog 85 = (none : Option TypeId) := by kernel_rfl
@[go_sem] theorem tarr_85 : tarr Try.prog 85 = (none : Option (Nat × TypeId)) := by kernel_rfl
@[go_sem] theorem tfld_85 : tfld Try.prog 85 = (none : Option (List (Nat × TypeId))) := by kernel_rfl
@[go_sem] theorem tint_85 : tint Try.prog 85 = (none : Option IntKind) := by kernel_rfl
@[go_sem] theorem tstr_85 : tstr Try.prog 85 = false := by kernel_rfl
@[go_sem] theorem tagg_85 : tagg Try.prog 85 = (some false : Option Bool) := by kernel_rfl
@[go_sem] theorem tby_85 : tby Try.prog 85 = 8 := by kernel_rfl
@[go_sem] theorem tkind_85 : tkind Try.prog 85 = (none : Option Nat) := by kernel_rfl
@[go_sem] theorem teq_85 : teq Try.prog 85 = (none : Option (List Nat)) := by kernel_rfl
@[go_sem] theorem tpt_85 : tpt Try.prog 85 = true := by kernel_rfl
@[go_sem] theorem tzA_85 : tzA Try.prog 85 = (some (AV.v (Value.pointer none)) : Option AV) := by kernel_rfl
@[go_sem] theorem tund_86 : tund Try.prog 86 = true := by kernel_rfl
@[go_sem] theorem tsz_86 : tsz Try.prog 86 = 1 := by kernel_rfl
@[go_sem] theorem tel_86 : tel Try.prog 86 = (none : Option TypeId) := by kernel_rfl
@[go_sem] theorem tarr_86 : tarr Try.prog 86 = (none : Option (Nat × TypeId)) := by kernel_rfl
@[go_sem] theorem tfld_86 : tfld Try.prog 86 = (none : Option (List (Nat × TypeId))) := by kernel_rfl
@[go_sem] theorem tint_86 : tint Try.prog 86 = (none : Option IntKind) := by kernel_rfl
@[go_sem] theorem tstr_86 : tstr Try.prog 86 = false := by kernel_rfl
@[go_sem] theorem tagg_86 : tagg Try.prog 86 = (some false : Option Bool) := by kernel_rfl
@[go_sem] theorem tby_86 : tby Try.prog 86 = 8 := by kernel_rfl
@[go_sem] theorem tkind_86 : tkind Try.prog 86 = (none : Option Nat) := by kernel_rfl
@[go_sem] theorem teq_86 : teq Try.prog 86 = (none : Option (List Nat)) := by kernel_rfl
@[go_sem] theorem tpt_86 : tpt Try.prog 86 = false := by kernel_rfl
@[go_sem] theorem tzA_86 : tzA Try.prog 86 = (some (AV.v (Value.map none)) : Option AV) := by kernel_rfl
@[go_sem] theorem tund_87 : tund Try.prog 87 = true := by kernel_rfl
@[go_sem] theorem tsz_87 : tsz Try.prog 87 = 1 := by kernel_rfl
@[go_sem] theorem tel_87 : tel Try.prog 87 = (none : Option TypeId) := by kernel_rfl
@[go_sem] theorem tarr_87 : tarr Try.prog 87 = (none : Option (Nat × TypeId)) := by kernel_rfl
@[go_sem] theorem tfld_87 : tfld Try.prog 87 = (none : Option (List (Nat × TypeId))) := by kernel_rfl
@[go_sem] theorem tint_87 : tint Try.prog 87 = (none : Option IntKind) := by kernel_rfl
@[go_sem] theorem tstr_87 : tstr Try.prog 87 = false := by kernel_rfl
@[go_sem] theorem tagg_87 : tagg Try.prog 87 = (some false : Option Bool) := by kernel_rfl
@[go_sem] theorem tby_87 : tby Try.prog 87 = 8 := by kernel_rfl
@[go_sem] theorem tkind_87 : tkind Try.prog 87 = (none : Option Nat) := by kernel_rfl
@[go_sem] theorem teq_87 : teq Try.prog 87 = (none : Option (List Nat)) := by kernel_rfl
@[go_sem] theorem tpt_87 : tpt Try.prog 87 = false := by kernel_rfl
@[go_sem] theorem tzA_87 : tzA Try.prog 87 = (some (AV.v Value.nilFunc) : Option AV) := by kernel_rfl
@[go_sem] theorem tund_88 : tund Try.prog 88 = true := by kernel_rfl
@[go_sem] theorem tsz_88 : tsz Try.prog 88 = 1 := by kernel_rfl
@[go_sem] theorem tel_88 : tel Try.prog 88 = (none : Option TypeId) := by kernel_rfl
@[go_sem] theorem tarr_88 : tarr Try.prog 88 = (none : Option (Nat × TypeId)) := by kernel_rfl
@[go_sem] theorem tfld_88 : tfld Try.prog 88 = (none : Option (List (Nat × TypeId))) := by kernel_rfl
@[go_sem] theorem tint_88 : tint Try.prog 88 = (none : Option IntKind) := by kernel_rfl
@[go_sem] theorem tstr_88 : tstr Try.prog 88 = false := by kernel_rfl
@[go_sem] theorem tagg_88 : tagg Try.prog 88 = (some false : Option Bool) := by kernel_rfl
@[go_sem] theorem tby_88 : tby Try.prog 88 = 8 := by kernel_rfl
@[go_sem] theorem tkind_88 : tkind Try.prog 88 = (none : Option Nat) := by kernel_rfl
@[go_sem] theorem teq_88 : teq Try.prog 88 = (none : Option (List Nat)) := by kernel_rfl
@[go_sem] theorem tpt_88 : tpt Try.prog 88 = false := by kernel_rfl
@[go_sem] theorem tzA_88 : tzA Try.prog 88 = (some (AV.v Value.nilFunc) : Option AV) := by kernel_rfl
@[go_sem] theorem tund_89 : tund Try.prog 89 = true := by kernel_rfl
@[go_sem] theorem tsz_89 : tsz Try.prog 89 = 1 := by kernel_rfl
@[go_sem] theorem tel_89 : tel Try.prog 89 = (none : Option TypeId) := by kernel_rfl
@[go_sem] theorem tarr_89 : tarr Try.prog 89 = (none : Option (Nat × TypeId)) := by kernel_rfl
@[go_sem] theorem tfld_89 : tfld Try.prog 89 = (none : Option (List (Nat × TypeId))) := by kernel_rfl
@[go_sem] theorem tint_89 : tint Try.prog 89 = (none : Option IntKind) := by kernel_rfl
@[go_sem] theorem tstr_89 : tstr Try.prog 89 = false := by kernel_rfl
@[go_sem] theorem tagg_89 : tagg Try.prog 89 = (some false : Option Bool) := by kernel_rfl
@[go_sem] theorem tby_89 : tby Try.prog 89 = 8 := by kernel_rfl
@[go_sem] theorem tkind_89 : tkind Try.prog 89 = (none : Option Nat) := by kernel_rfl
@[go_sem] theorem teq_89 : teq Try.prog 89 = (none : Option (List Nat)) := by kernel_rfl
@[go_sem] theorem tpt_89 : tpt Try.prog 89 = false := by kernel_rfl
@[go_sem] theorem tzA_89 : tzA Try.prog 89 = (some (AV.v Value.nilFunc) : Option AV) := by kernel_rfl
@[go_sem] theorem tund_90 : tund Try.prog 90 = true := by kernel_rfl
@[go_sem] theorem tsz_90 : tsz Try.prog 90 = 1 := by kernel_rfl
@[go_sem] theorem tel_90 : tel Try.prog 90 = (none : Option TypeId) := by kernel_rfl
@[go_sem] theorem tarr_90 : tarr Try.prog 90 = (none : Option (Nat × TypeId)) := by kernel_rfl
@[go_sem] theorem tfld_90 : tfld Try.prog 90 = (none : Option (List (Nat × TypeId))) := by kernel_rfl
@[go_sem] theorem tint_90 : tint Try.prog 90 = (none : Option IntKind) := by kernel_rfl
@[go_sem] theorem tstr_90 : tstr Try.prog 90 = false := by kernel_rfl
@[go_sem] theorem tagg_90 : tagg Try.prog 90 = (some false : Option Bool) := by kernel_rfl
@[go_sem] theorem tby_90 : tby Try.prog 90 = 8 := by kernel_rfl
@[go_sem] theorem tkind_90 : tkind Try.prog 90 = (none : Option Nat) := by kernel_rfl
@[go_sem] theorem teq_90 : teq Try.prog 90 = (none : Option (List Nat)) := by kernel_rfl
@[go_sem] theorem tpt_90 : tpt Try.prog 90 = false := by kernel_rfl
@[go_sem] theorem tzA_90 : tzA Try.prog 90 = (some (AV.v Value.nilFunc) : Option AV) := by kernel_rfl
@[go_sem] theorem tund_91 : tund Try.prog 91 = true := by kernel_rfl
@[go_sem] theorem tsz_91 : tsz Try.prog 91 = 1 := by kernel_rfl
@[go_sem] theorem tel_91 : tel Try.prog 91 = (none : Option TypeId) := by kernel_rfl
@[go_sem] theorem tarr_91 : tarr Try.prog 91 = (none : Option (Nat × TypeId)) := by kernel_rfl
@[go_sem] theorem tfld_91 : tfld Try.prog 91 = (none : Option (List (Nat × TypeId))) := by kernel_rfl
@[go_sem] theorem tint_91 : tint Try.prog 91 = (none : Option IntKind) := by kernel_rfl
@[go_sem] theorem tstr_91 : tstr Try.prog 91 = false := by kernel_rfl
@[go_sem] theorem tagg_91 : tagg Try.prog 91 = (some false : Option Bool) := by kernel_rfl
@[go_sem] theorem tby_91 : tby Try.prog 91 = 8 := by kernel_rfl
@[go_sem] theorem tkind_91 : tkind Try.prog 91 = (none : Option Nat) := by kernel_rfl
@[go_sem] theorem teq_91 : teq Try.prog 91 = (none : Option (List Nat)) := by kernel_rfl
@[go_sem] theorem tpt_91 : tpt Try.prog 91 = false := by kernel_rfl
@[go_sem] theorem tzA_91 : tzA Try.prog 91 = (some (AV.v Value.nilFunc) : Option AV) := by kernel_rfl
@[go_sem] theorem tund_92 : tund Try.prog 92 = true := by kernel_rfl
@[go_sem] theorem tsz_92 : tsz Try.prog 92 = 1 := by kernel_rfl
@[go_sem] theorem tel_92 : tel Try.prog 92 = (none : Option TypeId) := by kernel_rfl
@[go_sem] theorem tarr_92 : tarr Try.prog 92 = (none : Option (Nat × TypeId)) := by kernel_rfl
@[go_sem] theorem tfld_92 : tfld Try.prog 92 = (none : Option (List (Nat × TypeId))) := by kernel_rfl
@[go_sem] theorem tint_92 : tint Try.prog 92 = (none : Option IntKind) := by kernel_rfl
@[go_sem] theorem tstr_92 : tstr Try.prog 92 = false := by kernel_rfl
@[go_sem] theorem tagg_92 : tagg Try.prog 92 = (some false : Option Bool) := by kernel_rfl
@[go_sem] theorem tby_92 : tby Try.prog 92 = 8 := by kernel_rfl
@[go_sem] theorem tkind_92 : tkind Try.prog 92 = (none : Option Nat) := by kernel_rfl
@[go_sem] theorem teq_92 : teq Try.prog 92 = (none : Option (List Nat)) := by kernel_rfl
@[go_sem] theorem tpt_92 : tpt Try.prog 92 = false := by kernel_rfl
@[go_sem] theorem tzA_92 : tzA Try.prog 92 = (some (AV.v Value.nilFunc) : Option AV) := by kernel_rfl
@[go_sem] theorem tund_93 : tund Try.prog 93 = true := by kernel_rfl
@[go_sem] theorem tsz_93 : tsz Try.prog 93 = 1 := by kernel_rfl
@[go_sem] theorem tel_93 : tel Try.prog 93 = (none : Option TypeId) := by kernel_rfl
@[go_sem] theorem tarr_93 : tarr Try.prog 93 = (none : Option (Nat × TypeId)) := by kernel_rfl
@[go_sem] theorem tfld_93 : tfld Try.prog 93 = (none : Option (List (Nat × TypeId))) := by kernel_rfl
@[go_sem] theorem tint_93 : tint Try.prog 93 = (none : Option IntKind) := by kernel_rfl
@[go_sem] theorem tstr_93 : tstr Try.prog 93 = false := by kernel_rfl
@[go_sem] theorem tagg_93 : tagg Try.prog 93 = (some false : Option Bool) := by kernel_rfl
@[go_sem] theorem tby_93 : tby Try.prog 93 = 0 := by kernel_rfl
@[go_sem] theorem tkind_93 : tkind Try.prog 93 = (none : Option Nat) := by kernel_rfl
@[go_sem] theorem teq_93 : teq Try.prog 93 = (none : Option (List Nat)) := by kernel_rfl
@[go_sem] theorem tpt_93 : tpt Try.prog 93 = false := by kernel_rfl
@[go_sem] theorem tzA_93 : tzA Try.prog 93 = (some (AV.tup [AV.v (Value.int IntKind.i64 (0)), AV.v (Value.bool false)]) : Option AV) := by kernel_rfl
@[go_sem] theorem tund_94 : tund Try.prog 94 = true := by kernel_rfl
@[go_sem] theorem tsz_94 : tsz Try.prog 94 = 1 := by kernel_rfl
@[go_sem] theorem tel_94 : tel Try.prog 94 = (none : Option TypeId) := by kernel_rfl
@[go_sem] theorem tarr_94 : tarr Try.prog 94 = (none : Option (Nat × TypeId)) := by kernel_rfl
@[go_sem] theorem tfld_94 : tfld Try.prog 94 = (none : Option (List (Nat × TypeId))) := by kernel_rfl
@[go_sem] theorem tint_94 : tint Try.prog 94 = (none : Option IntKind) := by kernel_rfl
@[go_sem] theorem tstr_94 : tstr Try.prog 94 = false := by kernel_rfl
@[go_sem] theorem tagg_94 : tagg Try.prog 94 = (some false : Option Bool) := by kernel_rfl
@[go_sem] theorem tby_94 : tby Try.prog 94 = 8 := by kernel_rfl
@[go_sem] theorem tkind_94 : tkind Try.prog 94 = (none : Option Nat) := by kernel_rfl
@[go_sem] theorem teq_94 : teq Try.prog 94 = (none : Option (List Nat)) := by kernel_rfl
@[go_sem] theorem tpt_94 : tpt Try.prog 94 = false := by kernel_rfl
@[go_sem] theorem tzA_94 : tzA Try.prog 94 = (some (AV.v Value.nilFunc) : Option AV) := by kernel_rfl
@[go_sem] theorem tund_95 : tund Try.prog 95 = true := by kernel_rfl
@[go_sem] theorem tsz_95 : tsz Try.prog 95 = 1 := by kernel_rfl
@[go_sem] theorem tel_95 : tel Try.prog 95 = (none : Option TypeId) := by kernel_rfl
@[go_sem] theorem tarr_95 : tarr Try.prog 95 = (none : Option (Nat × TypeId)) := by kernel_rfl
@[go_sem] theorem tfld_95 : tfld Try.prog 95 = (none : Option (List (Nat × TypeId))) := by kernel_rfl
@[go_sem] theorem tint_95 : tint Try.prog 95 = (none : Option IntKind) := by kernel_rfl
@[go_sem] theorem tstr_95 : tstr Try.prog 95 = false := by kernel_rfl
@[go_sem] theorem tagg_95 : tagg Try.prog 95 = (some false : Option Bool) := by kernel_rfl
@[go_sem] theorem tby_95 : tby Try.prog 95 = 8 := by kernel_rfl
@[go_sem] theorem tkind_95 : tkind Try.prog 95 = (none : Option Nat) := by kernel_rfl
@[go_sem] theorem teq_95 : teq Try.prog 95 = (none : Option (List Nat)) := by kernel_rfl
@[go_sem] theorem tpt_95 : tpt Try.prog 95 = false := by kernel_rfl
@[go_sem] theorem tzA_95 : tzA Try.prog 95 = (some (AV.v Value.nilFunc) : Option AV) := by kernel_rfl
@[go_sem] theorem tund_96 : tund Try.prog 96 = true := by kernel_rfl
@[go_sem] theorem tsz_96 : tsz Try.prog 96 = 1 := by kernel_rfl
@[go_sem] theorem tel_96 : tel Try.prog 96 = (none : Option TypeId) := by kernel_rfl
@[go_sem] theorem tarr_96 : tarr Try.prog 96 = (none : Option (Nat × TypeId)) := by kernel_rfl
@[go_sem] theorem tfld_96 : tfld Try.prog 96 = (none : Option (List (Nat × TypeId))) := by kernel_rfl
@[go_sem] theorem tint_96 : tint Try.prog 96 = (none : Option IntKind) := by kernel_rfl
@[go_sem] theorem tstr_96 : tstr Try.prog 96 = false := by kernel_rfl
@[go_sem] theorem tagg_96 : tagg Try.prog 96 = (some false : Option Bool) := by kernel_rfl
@[go_sem] theorem tby_96 : tby Try.prog 96 = 8 := by kernel_rfl
@[go_sem] theorem tkind_96 : tkind Try.prog 96 = (none : Option Nat) := by kernel_rfl
@[go_sem] theorem teq_96 : teq Try.prog 96 = (none : Option (List Nat)) := by kernel_rfl
@[go_sem] theorem tpt_96 : tpt Try.prog 96 = false := by kernel_rfl
@[go_sem] theorem tzA_96 : tzA Try.prog 96 = (some (AV.v Value.nilFunc) : Option AV) := by kernel_rfl
@[go_sem] theorem tund_97 : tund Try.prog 97 = true := by kernel_rfl
@[go_sem] theorem tsz_97 : tsz Try.prog 97 = 1 := by kernel_rfl
@[go_sem] theorem tel_97 : tel Try.prog 97 = (none : Option TypeId) := by kernel_rfl
@[go_sem] theorem tarr_97 : tarr Try.prog 97 = (none : Option (Nat × TypeId)) := by kernel_rfl
@[go_sem] theorem tfld_97 : tfld Try.prog 97 = (none : Option (List (Nat × TypeId))) := by kernel_rfl
@[go_sem] theorem tint_97 : tint Try.prog 97 = (none : Option IntKind) := by kernel_rfl
@[go_sem] theorem tstr_97 : tstr Try.prog 97 = false := by kernel_rfl
@[go_sem] theorem tagg_97 : tagg Try.prog 97 = (some false : Option Bool) := by kernel_rfl
@[go_sem] theorem tby_97 : tby Try.prog 97 = 8 := by kernel_rfl
@[go_sem] theorem tkind_97 : tkind Try.prog 97 = (none : Option Nat) := by kernel_rfl
@[go_sem] theorem teq_97 : teq Try.prog 97 = (none : Option (List Nat)) := by kernel_rfl
@[go_sem] theorem tpt_97 : tpt Try.prog 97 = false := by kernel_rfl
@[go_sem] theorem tzA_97 : tzA Try.prog 97 = (some (AV.v Value.nilFunc) : Option AV) := by kernel_rfl
@[go_sem] theorem tund_98 : tund Try.prog 98 = true := by kernel_rfl
@[go_sem] theorem tsz_98 : tsz Try.prog 98 = 1 := by kernel_rfl
@[go_sem] theorem tel_98 : tel Try.prog 98 = (none : Option TypeId) := by kernel_rfl
@[go_sem] theorem tarr_98 : tarr Try.prog 98 = (none : Option (Nat × TypeId)) := by kernel_rfl
@[go_sem] theorem tfld_98 : tfld Try.prog 98 = (none : Option (List (Nat × TypeId))) := by kernel_rfl
@[go_sem] theorem tint_98 : tint Try.prog 98 = (none : Option IntKind) := by kernel_rfl
@[go_sem] theorem tstr_98 : tstr Try.prog 98 = false := by kernel_rfl
@[go_sem] theorem tagg_98 : tagg Try.prog 98 = (some false : Option Bool) := by kernel_rfl
@[go_sem] theorem tby_98 : tby Try.prog 98 = 8 := by kernel_rfl
@[go_sem] theorem tkind_98 : tkind Try.prog 98 = (none : Option Nat) := by kernel_rfl
@[go_sem] theorem teq_98 : teq Try.prog 98 = (none : Option (List Nat)) := by kernel_rfl
@[go_sem] theorem tpt_98 : tpt Try.prog 98 = false := by kernel_rfl
@[go_sem] theorem tzA_98 : tzA Try.prog 98 = (some (AV.v Value.nilFunc) : Option AV) := by kernel_rfl
@[go_sem] theorem tund_99 : tund Try.prog 99 = true := by kernel_rfl
@[go_sem] theorem tsz_99 : tsz Try.prog 99 = 1 := by kernel_rfl
@[go_sem] theorem tel_99 : tel Try.prog 99 = (none : Option TypeId) := by kernel_rfl
@[go_sem] theorem tarr_99 : tarr Try.prog 99 = (none : Option (Nat × TypeId)) := by kernel_rfl
@[go_sem] theorem tfld_99 : tfld Try.prog 99 = (none : Option (List (Nat × TypeId))) := by kernel_rfl
@[go_sem] theorem tint_99 : tint Try.prog 99 = (none : Option IntKind) := by kernel_rfl
@[go_sem] theorem tstr_99 : tstr Try.prog 99 = false := by kernel_rfl
@[go_sem] theorem tagg_99 : tagg Try.prog 99 = (some false : Option Bool) := by kernel_rfl
@[go_sem] theorem tby_99 : tby Try.prog 99 = 8 := by kernel_rfl
@[go_sem] theorem tkind_99 : tkind Try.prog 99 = (none : Option Nat) := by kernel_rfl
@[go_sem] theorem teq_99 : teq Try.prog 99 = (none : Option (List Nat)) := by kernel_rfl
@[go_sem] theorem tpt_99 : tpt Try.prog 99 = false := by kernel_rfl
@[go_sem] theorem tzA_99 : tzA Try.prog 99 = (some (AV.v Value.nilFunc) : Option AV) := by kernel_rfl
@[go_sem] theorem tund_100 : tund Try.prog 100 = true := by kernel_rfl
@[go_sem] theorem tsz_100 : tsz Try.prog 100 = 1 := by kernel_rfl
@[go_sem] theorem tel_100 : tel Try.prog 100 = (none : Option TypeId) := by kernel_rfl
@[go_sem] theorem tarr_100 : tarr Try.prog 100 = (none : Option (Nat × TypeId)) := by kernel_rfl
@[go_sem] theorem tfld_100 : tfld Try.prog 100 = (none : Option (List (Nat × TypeId))) := by kernel_rfl
@[go_sem] theorem tint_100 : tint Try.prog 100 = (none : Option IntKind) := by kernel_rfl
@[go_sem] theorem tstr_100 : tstr Try.prog 100 = false := by kernel_rfl
@[go_sem] theorem tagg_100 : tagg Try.prog 100 = (some false : Option Bool) := by kernel_rfl
@[go_sem] theorem tby_100 : tby Try.prog 100 = 8 := by kernel_rfl
@[go_sem] theorem tkind_100 : tkind Try.prog 100 = (none : Option Nat) := by kernel_rfl
@[go_sem] theorem teq_100 : teq Try.prog 100 = (none : Option (List Nat)) := by kernel_rfl
@[go_sem] theorem tpt_100 : tpt Try.prog 100 = false := by kernel_rfl
@[go_sem] theorem tzA_100 : tzA Try.prog 100 = (some (AV.v Value.nilFunc) : Option AV) := by kernel_rfl
@[go_sem] theorem tund_101 : tund Try.prog 101 = true := by kernel_rfl
@[go_sem] theorem tsz_101 : tsz Try.prog 101 = 1 := by kernel_rfl
@[go_sem] theorem tel_101 : tel Try.prog 101 = (none : Option TypeId) := by kernel_rfl
@[go_sem] theorem tarr_101 : tarr Try.prog 101 = (none : Option (Nat × TypeId)) := by kernel_rfl
@[go_sem] theorem tfld_101 : tfld Try.prog 101 = (none : Option (List (Nat × TypeId))) := by kernel_rfl
@[go_sem] theorem tint_101 : tint Try.prog 101 = (none : Option IntKind) := by kernel_rfl
@[go_sem] theorem tstr_101 : tstr Try.prog 101 = false := by kernel_rfl
@[go_sem] theorem tagg_101 : tagg Try.prog 101 = (some false : Option Bool) := by kernel_rfl
@[go_sem] theorem tby_101 : tby Try.prog 101 = 8 := by kernel_rfl
@[go_sem] theorem tkind_101 : tkind Try.prog 101 = (none : Option Nat) := by kernel_rfl
@[go_sem] theorem teq_101 : teq Try.prog 101 = (none : Option (List Nat)) := by kernel_rfl
@[go_sem] theorem tpt_101 : tpt Try.prog 101 = false := by kernel_rfl
@[go_sem] theorem tzA_101 : tzA Try.prog 101 = (some (AV.v Value.nilFunc) : Option AV) := by kernel_rfl
@[go_sem] theorem tund_102 : tund Try.prog 102 = true := by kernel_rfl
@[go_sem] theorem tsz_102 : tsz Try.prog 102 = 1 := by kernel_rfl
@[go_sem] theorem tel_102 : tel Try.prog 102 = (none : Option TypeId) := by kernel_rfl
@[go_sem] theorem tarr_102 : tarr Try.prog 102 = (none : Option (Nat × TypeId)) := by kernel_rfl
@[go_sem] theorem tfld_102 : tfld Try.prog 102 = (none : Option (List (Nat × TypeId))) := by kernel_rfl
@[go_sem] theorem tint_102 : tint Try.prog 102 = (none : Option IntKind) := by kernel_rfl
@[go_sem] theorem tstr_102 : tstr Try.prog 102 = false := by kernel_rfl
@[go_sem] theorem tagg_102 : tagg Try.prog 102 = (some false : Option Bool) := by kernel_rfl
@[go_sem] theorem tby_102 : tby Try.prog 102 = 8 := by kernel_rfl
@[go_sem] theorem tkind_102 : tkind Try.prog 102 = (none : Option Nat) := by kernel_rfl
@[go_sem] theorem teq_102 : teq Try.prog 102 = (none : Option (List Nat)) := by kernel_rfl
@[go_sem] theorem tpt_102 : tpt Try.prog 102 = false := by kernel_rfl
@[go_sem] theorem tzA_102 : tzA Try.prog 102 = (some (AV.v Value.nilFunc) : Option AV) := by kernel_rfl
@[go_sem] theorem tund_103 : tund Try.prog 103 = true := by kernel_rfl
@[go_sem] theorem tsz_103 : tsz Try.prog 103 = 1 := by kernel_rfl
@[go_sem] theorem tel_103 : tel Try.prog 103 = (none : Option TypeId) := by kernel_rfl
@[go_sem] theorem tarr_103 : tarr Try.prog 103 = (none : Option (Nat × TypeId)) := by kernel_rfl
@[go_sem] theorem tfld_103 : tfld Try.prog 103 = (none : Option (List (Nat × TypeId))) := by kernel_rfl
@[go_sem] theorem tint_103 : tint Try.prog 103 = (some IntKind.u64 : Option IntKind) := by kernel_rfl
@[go_sem] theorem tstr_103 : tstr Try.prog 103 = false := by kernel_rfl
@[go_sem] theorem tagg_103 : tagg Try.prog 103 = (some false : Option Bool) := by kernel_rfl
@[go_sem] theorem tby_103 : tby Try.prog 103 = 8 := by kernel_rfl
@[go_sem] theorem tkind_103 : tkind Try.prog 103 = (some 0 : Option Nat) := by kernel_rfl
@[go_sem] theorem teq_103 : teq Try.prog 103 = (none : Option (List Nat)) := by kernel_rfl
@[go_sem] theorem tpt_103 : tpt Try.prog 103 = false := by kernel_rfl
@[go_sem] theorem tzA_103 : tzA Try.prog 103 = (some (AV.v (Value.int IntKind.u64 (0))) : Option AV) := by kernel_rfl
@[go_sem] theorem tund_104 : tund Try.prog 104 = true := by kernel_rfl
@[go_sem] theorem tsz_104 : tsz Try.prog 104 = 1 := by kernel_rfl
@[go_sem] theorem tel_104 : tel Try.prog 104 = (none : Option TypeId) := by kernel_rfl
@[go_sem] theorem tarr_104 : tarr Try.prog 104 = (none : Option (Nat × TypeId)) := by kernel_rfl
@[go_sem] theorem tfld_104 : tfld Try.prog 104 = (none : Option (List (Nat × TypeId))) := by kernel_rfl
@[go_sem] theorem tint_104 : tint Try.prog 104 = (none : Option IntKind) := by kernel_rfl
@[go_sem] theorem tstr_104 : tstr Try.prog 104 = false := by kernel_rfl
@[go_sem] theorem tagg_104 : tagg Try.prog 104 = (some false : Option Bool) := by kernel_rfl
@[go_sem] theorem tby_104 : tby Try.prog 104 = 8 := by kernel_rfl
@[go_sem] theorem tkind_104 : tkind Try.prog 104 = (none : Option Nat) := by kernel_rfl
@[go_sem] theorem teq_104 : teq Try.prog 104 = (none : Option (List Nat)) := by kernel_rfl
@[go_sem] theorem tpt_104 : tpt Try.prog 104 = false := by kernel_rfl
@[go_sem] theorem tzA_104 : tzA Try.prog 104 = (some (AV.v Value.nilFunc) : Option AV) := by kernel_rfl
@[go_sem] theorem tund_105 : tund Try.prog 105 = true := by kernel_rfl
@[go_sem] theorem tsz_105 : tsz Try.prog 105 = 1 := by kernel_rfl
@[go_sem] theorem tel_105 : tel Try.prog 105 = (none : Option TypeId) := by kernel_rfl
@[go_sem] theorem tarr_105 : tarr Try.prog 105 = (none : Option (Nat × TypeId)) := by kernel_rfl
@[go_sem] theorem tfld_105 : tfld Try.prog 105 = (none : Option (List (Nat × TypeId))) := by kernel_rfl
@[go_sem] theorem tint_105 : tint Try.prog 105 = (none : Option IntKind) := by kernel_rfl
@[go_sem] theorem tstr_105 : tstr Try.prog 105 = false := by kernel_rfl
@[go_sem] theorem tagg_105 : tagg Try.prog 105 = (some false : Option Bool) := by kernel_rfl
@[go_sem] theorem tby_105 : tby Try.prog 105 = 8 := by kernel_rfl
@[go_sem] theorem tkind_105 : tkind Try.prog 105 = (none : Option Nat) := by kernel_rfl
@[go_sem] theorem teq_105 : teq Try.prog 105 = (none : Option (List Nat)) := by kernel_rfl
@[go_sem] theorem tpt_105 : tpt Try.prog 105 = false := by kernel_rfl
@[go_sem] theorem tzA_105 : tzA Try.prog 105 = (some (AV.v Value.nilFunc) : Option AV) := by kernel_rfl
@[go_sem] theorem tund_106 : tund Try.prog 106 = true := by kernel_rfl
@[go_sem] theorem tsz_106 : tsz Try.prog 106 = 1 := by kernel_rfl
@[go_sem] theorem tel_106 : tel Try.prog 106 = (none : Option TypeId) := by kernel_rfl
@[go_sem] theorem tarr_106 : tarr Try.prog 106 = (none : Option (Nat × TypeId)) := by kernel_rfl
@[go_sem] theorem tfld_106 : tfld Try.prog 106 = (none : Option (List (Nat × TypeId))) := by kernel_rfl
@[go_sem] theorem tint_106 : tint Try.prog 106 = (none : Option IntKind) := by kernel_rfl
@[go_sem] theorem tstr_106 : tstr Try.prog 106 = false := by kernel_rfl
@[go_sem] theorem tagg_106 : tagg Try.prog 106 = (some false : Option Bool) := by kernel_rfl
@[go_sem] theorem tby_106 : tby Try.prog 106 = 8 := by kernel_rfl
@[go_sem] theorem tkind_106 : tkind Try.prog 106 = (none : Option Nat) := by kernel_rfl
@[go_sem] theorem teq_106 : teq Try.prog 106 = (none : Option (List Nat)) := by kernel_rfl
@[go_sem] theorem tpt_106 : tpt Try.prog 106 = false := by kernel_rfl
@[go_sem] theorem tzA_106 : tzA Try.prog 106 = (some (AV.v Value.nilFunc) : Option AV) := by kernel_rfl
@[go_sem] theorem tund_107 : tund Try.prog 107 = true := by kernel_rfl
@[go_sem] theorem tsz_107 : tsz Try.prog 107 = 1 := by kernel_rfl
@[go_sem] theorem tel_107 : tel Try.prog 107 = (none : Option TypeId) := by kernel_rfl
@[go_sem] theorem tarr_107 : tarr Try.prog 107 = (none : Option (Nat × TypeId)) := by kernel_rfl
@[go_sem] theorem tfld_107 : tfld Try.prog 107 = (none : Option (List (Nat × TypeId))) := by kernel_rfl
@[go_sem] theorem tint_107 : tint Try.prog 107 = (none : Option IntKind) := by kernel_rfl
@[go_sem] theorem tstr_107 : tstr Try.prog 107 = false := by kernel_rfl
@[go_sem] theorem tagg_107 : tagg Try.prog 107 = (some false : Option Bool) := by kernel_rfl
@[go_sem] theorem tby_107 : tby Try.prog 107 = 8 := by kernel_rfl
@[go_sem] theorem tkind_107 : tkind Try.prog 107 = (none : Option Nat) := by kernel_rfl
@[go_sem] theorem teq_107 : teq Try.prog 107 = (none : Option (List Nat)) := by kernel_rfl
@[go_sem] theorem tpt_107 : tpt Try.prog 107 = false := by kernel_rfl
@[go_sem] theorem tzA_107 : tzA Try.prog 107 = (some (AV.v Value.nilFunc) : Option AV) := by kernel_rfl
@[go_sem] theorem tund_108 : tund Try.prog 108 = true := by kernel_rfl
@[go_sem] theorem tsz_108 : tsz Try.prog 108 = 1 := by kernel_rfl
@[go_sem] theorem tel_108 : tel Try.prog 108 = (none : Option TypeId) := by kernel_rfl
@[go_sem] theorem tarr_108 : tarr Try.prog 108 = (none : Option (Nat × TypeId)) := by kernel_rfl
@[go_sem] theorem tfld_108 : tfld Try.prog 108 = (none : Option (List (Nat × TypeId))) := by kernel_rfl
@[go_sem] theorem tint_108 : tint Try.prog 108 = (some IntKind.i64 : Option IntKind) := by kernel_rfl
@[go_sem] theorem tstr_108 : tstr Try.prog 108 = false := by kernel_rfl
@[go_sem] theorem tagg_108 : tagg Try.prog 108 = (some false : Option Bool) := by kernel_rfl
@[go_sem] theorem tby_108 : tby Try.prog 108 = 8 := by kernel_rfl
@[go_sem] theorem tkind_108 : tkind Try.prog 108 = (some 0 : Option Nat) := by kernel_rfl
@[go_sem] theorem teq_108 : teq Try.prog 108 = (none : Option (List Nat)) := by kernel_rfl
@[go_sem] theorem tpt_108 : tpt Try.prog 108 = false := by kernel_rfl
@[go_sem] theorem tzA_108 : tzA Try.prog 108 = (some (AV.v (Value.int IntKind.i64 (0))) : Option AV) := by kernel_rfl
@[go_sem] theorem tund_109 : tund Try.prog 109 = true := by kernel_rfl
@[go_sem] theorem tsz_109 : tsz Try.prog 109 = 1 := by kernel_rfl
@[go_sem] theorem tel_109 : tel Try.prog 109 = (none : Option TypeId) := by kernel_rfl
@[go_sem] theorem tarr_109 : tarr Try.prog 109 = (none : Option (Nat × TypeId)) := by kernel_rfl
@[go_sem] theorem tfld_109 : tfld Try.prog 109 = (none : Option (List (Nat × TypeId))) := by kernel_rfl
@[go_sem] theorem tint_109 : tint Try.prog 109 = (none : Option IntKind) := by kernel_rfl
@[go_sem] theorem tstr_109 : tstr Try.prog 109 = false := by kernel_rfl
@[go_sem] theorem tagg_109 : tagg Try.prog 109 = (some false : Option Bool) := by kernel_rfl
@[go_sem] theorem tby_109 : tby Try.prog 109 = 0 := by kernel_rfl
@[go_sem] theorem tkind_109 : tkind Try.prog 109 = (none : Option Nat) := by kernel_rfl
@[go_sem] theorem teq_109 : teq Try.prog 109 = (none : Option (List Nat)) := by kernel_rfl
@[go_sem] theorem tpt_109 : tpt Try.prog 109 = false := by kernel_rfl
@[go_sem] theorem tzA_109 : tzA Try.prog 109 = (some (AV.tup [AV.v (Value.int IntKind.i64 (0)), AV.v (Value.int IntKind.i64 (0))]) : Option AV) := by kernel_rfl
@[go_sem] theorem tund_110 : tund Try.prog 110 = true := by kernel_rfl
@[go_sem] theorem tsz_110 : tsz Try.prog 110 = 1 := by kernel_rfl
@[go_sem] theorem tel_110 : tel Try.prog 110 = (none : Option TypeId) := by kernel_rfl
@[go_sem] theorem tarr_110 : tarr Try.prog 110 = (none : Option (Nat × TypeId)) := by kernel_rfl
@[go_sem] theorem tfld_110 : tfld Try.prog 110 = (none : Option (List (Nat × TypeId))) := by kernel_rfl
@[go_sem] theorem tint_110 : tint Try.prog 110 = (none : Option IntKind) := by kernel_rfl
@[go_sem] theorem tstr_110 : tstr Try.prog 110 = false := by kernel_rfl
@[go_sem] theorem tagg_110 : tagg Try.prog 110 = (some false : Option Bool) := by kernel_rfl
@[go_sem] theorem tby_110 : tby Try.prog 110 = 8 := by kernel_rfl
@[go_sem] theorem tkind_110 : tkind Try.prog 110 = (none : Option Nat) := by kernel_rfl
@[go_sem] theorem teq_110 : teq Try.prog 110 = (none : Option (List Nat)) := by kernel_rfl
@[go_sem] theorem tpt_110 : tpt Try.prog 110 = false := by kernel_rfl
@[go_sem] theorem tzA_110 : tzA Try.prog 110 = (some (AV.v Value.nilFunc) : Option AV) := by kernel_rfl
@[go_sem] theorem tund_111 : tund Try.prog 111 = true := by kernel_rfl
@[go_sem] theorem tsz_111 : tsz Try.prog 111 = 1 := by kernel_rfl
@[go_sem] theorem tel_111 : tel Try.prog 111 = (none : Option TypeId) := by kernel_rfl
@[go_sem] theorem tarr_111 : tarr Try.prog 111 = (none : Option (Nat × TypeId)) := by kernel_rfl
@[go_sem] theorem tfld_111 : tfld Try.prog 111 = (none : Option (List (Nat × TypeId))) := by kernel_rfl
@[go_sem] theorem tint_111 : tint Try.prog 111 = (none : Option IntKind) := by kernel_rfl
@[go_sem] theorem tstr_111 : tstr Try.prog 111 = false := by kernel_rfl
@[go_sem] theorem tagg_111 : tagg Try.prog 111 = (some false : Option Bool) := by kernel_rfl
@[go_sem] theorem tby_111 : tby Try.prog 111 = 8 := by kernel_rfl
@[go_sem] theorem tkind_111 : tkind Try.prog 111 = (none : Option Nat) := by kernel_rfl
@[go_sem] theorem teq_111 : teq Try.prog 111 = (none : Option (List Nat)) := by kernel_rfl
@[go_sem] theorem tpt_111 : tpt Try.prog 111 = false := by kernel_rfl
@[go_sem] theorem tzA_111 : tzA Try.prog 111 = (some (AV.v Value.nilFunc) : Option AV) := by kernel_rfl
@[go_sem] theorem tund_112 : tund Try.prog 112 = true := by kernel_rfl
@[go_sem] theorem tsz_112 : tsz Try.prog 112 = 1 := by kernel_rfl
@[go_sem] theorem tel_112 : tel Try.prog 112 = (none : Option TypeId) := by kernel_rfl
@[go_sem] theorem tarr_112 : tarr Try.prog 112 = (none : Option (Nat × TypeId)) := by kernel_rfl
@[go_sem] theorem tfld_112 : tfld Try.prog 112 = (none : Option (List (Nat × TypeId))) := by kernel_rfl
@[go_sem] theorem tint_112 : tint Try.prog 112 = (none : Option IntKind) := by kernel_rfl
@[go_sem] theorem tstr_112 : tstr Try.prog 112 = false := by kernel_rfl
@[go_sem] theorem tagg_112 : tagg Try.prog 112 = (some false : Option Bool) := by kernel_rfl
@[go_sem] theorem tby_112 : tby Try.prog 112 = 8 := by kernel_rfl
@[go_sem] theorem tkind_112 : tkind Try.prog 112 = (none : Option Nat) := by kernel_rfl
@[go_sem] theorem teq_112 : teq Try.prog 112 = (none : Option (List Nat)) := by kernel_rfl
@[go_sem] theorem tpt_112 : tpt Try.prog 112 = false := by kernel_rfl
@[go_sem] theorem tzA_112 : tzA Try.prog 112 = (some (AV.v Value.nilFunc) : Option AV) := by kernel_rfl
@[go_sem] theorem tund_113 : tund Try.prog 113 = true := by kernel_rfl
@[go_sem] theorem tsz_113 : tsz Try.prog 113 = 1 := by kernel_rfl
@[go_sem] theorem tel_113 : tel Try.prog 113 = (none : Option TypeId) := by kernel_rfl
@[go_sem] theorem tarr_113 : tarr Try.prog 113 = (none : Option (Nat × TypeId)) := by kernel_rfl
@[go_sem] theorem tfld_113 : tfld Try.prog 113 = (none : Option (List (Nat × TypeId))) := by kernel_rfl
@[go_sem] theorem tint_113 : tint Try.prog 113 = (none : Option IntKind) := by kernel_rfl
@[go_sem] theorem tstr_113 : tstr Try.prog 113 = false := by kernel_rfl
@[go_sem] theorem tagg_113 : tagg Try.prog 113 = (some false : Option Bool) := by kernel_rfl
@[go_sem] theorem tby_113 : tby Try.prog 113 = 8 := by kernel_rfl
@[go_sem] theorem tkind_113 : tkind Try.prog 113 = (none : Option Nat) := by kernel_rfl
@[go_sem] theorem teq_113 : teq Try.prog 113 = (none : Option (List Nat)) := by kernel_rfl
@[go_sem] theorem tpt_113 : tpt Try.prog 113 = false := by kernel_rfl
@[go_sem] theorem tzA_113 : tzA Try.prog 113 = (some (AV.v Value.nilFunc) : Option AV) := by kernel_rfl
@[go_sem] theorem tund_114 : tund Try.prog 114 = true := by kernel_rfl
@[go_sem] theorem tsz_114 : tsz Try.prog 114 = 1 := by kernel_rfl
@[go_sem] theorem tel_114 : tel Try.prog 114 = (none : Option TypeId) := by kernel_rfl
@[go_sem] theorem tarr_114 : tarr Try.prog 114 = (none : Option (Nat × TypeId)) := by kernel_rfl
@[go_sem] theorem tfld_114 : tfld Try.prog 114 = (none : Option (List (Nat × TypeId))) := by kernel_rfl
@[go_sem] theorem tint_114 : tint Try.prog 114 = (none : Option IntKind) := by kernel_rfl
@[go_sem] theorem tstr_114 : tstr Try.prog 114 = false := by kernel_rfl
@[go_sem] theorem tagg_114 : tagg Try.prog 114 = (some false : Option Bool) := by kernel_rfl
@[go_sem] theorem tby_114 : tby Try.prog 114 = 8 := by kernel_rfl
@[go_sem] theorem tkind_114 : tkind Try.prog 114 = (none : Option Nat) := by kernel_rfl
@[go_sem] theorem teq_114 : teq Try.prog 114 = (none : Option (List Nat)) := by kernel_rfl
@[go_sem] theorem tpt_114 : tpt Try.prog 114 = false := by kernel_rfl
@[go_sem] theorem tzA_114 : tzA Try.prog 114 = (some (AV.v Value.nilFunc) : Option AV) := by kernel_rfl
@[go_sem] theorem tund_115 : tund Try.prog 115 = true := by kernel_rfl
@[go_sem] theorem tsz_115 : tsz Try.prog 115 = 1 := by kernel_rfl
@[go_sem] theorem tel_115 : tel Try.prog 115 = (none : Option TypeId) := by kernel_rfl
@[go_sem] theorem tarr_115 : tarr Try.prog 115 = (none : Option (Nat × TypeId)) := by kernel_rfl
@[go_sem] theorem tfld_115 : tfld Try.prog 115 = (none : Option (List (Nat × TypeId))) := by kernel_rfl
@[go_sem] theorem tint_115 : tint Try.prog 115 = (some IntKind.u32 : Option IntKind) := by kernel_rfl
@[go_sem] theorem tstr_115 : tstr Try.prog 115 = false := by kernel_rfl
@[go_sem] theorem tagg_115 : tagg Try.prog 115 = (some false : Option Bool) := by kernel_rfl
@[go_sem] theorem tby_115 : tby Try.prog 115 = 4 := by kernel_rfl
@[go_sem] theorem tkind_115 : tkind Try.prog 115 = (some 0 : Option Nat) := by kernel_rfl
@[go_sem] theorem teq_115 : teq Try.prog 115 = (none : Option (List Nat)) := by kernel_rfl
@[go_sem] theorem tpt_115 : tpt Try.prog 115 = false := by kernel_rfl
@[go_sem] theorem tzA_115 : tzA Try.prog 115 = (some (AV.v (Value.int IntKind.u32 (0))) : Option AV) := by kernel_rfl
@[go_sem] theorem tund_116 : tund Try.prog 116 = true := by kernel_rfl
@[go_sem] theorem tsz_116 : tsz Try.prog 116 = 1 := by kernel_rfl
@[go_sem] theorem tel_116 : tel Try.prog 116 = (none : Option TypeId) := by kernel_rfl
@[go_sem] theorem tarr_116 : tarr Try.prog 116 = (none : Option (Nat × TypeId)) := by kernel_rfl
@[go_sem] theorem tfld_116 : tfld Try.prog 116 = (none : Option (List (Nat × TypeId))) := by kernel_rfl
@[go_sem] theorem tint_116 : tint Try.prog 116 = (none : Option IntKind) := by kernel_rfl
@[go_sem] theorem tstr_116 : tstr Try.prog 116 = false := by kernel_rfl
@[go_sem] theorem tagg_116 : tagg Try.prog 116 = (some false : Option Bool) := by kernel_rfl
@[go_sem] theorem tby_116 : tby Try.prog 116 = 8 := by kernel_rfl
@[go_sem] theorem tkind_116 : tkind Try.prog 116 = (none : Option Nat) := by kernel_rfl
@[go_sem] theorem teq_116 : teq Try.prog 116 = (none : Option (List Nat)) := by kernel_rfl
@[go_sem] theorem tpt_116 : tpt Try.prog 116 = false := by kernel_rfl
@[go_sem] theorem tzA_116 : tzA Try.prog 116 = (some (AV.v Value.nilFunc) : Option AV) := by kernel_rfl
@[go_sem] theorem tund_117 : tund Try.prog 117 = true := by kernel_rfl
@[go_sem] theorem tsz_117 : tsz Try.prog 117 = 1 := by kernel_rfl
@[go_sem] theorem tel_117 : tel Try.prog 117 = (none : Option TypeId) := by kernel_rfl
@[go_sem] theorem tarr_117 : tarr Try.prog 117 = (none : Option (Nat × TypeId)) := by kernel_rfl
@[go_sem] theorem tfld_117 : tfld Try.prog 117 = (none : Option (List (Nat × TypeId))) := by kernel_rfl
@[go_sem] theorem tint_117 : tint Try.prog 117 = (some IntKind.u64 : Option IntKind) := by kernel_rfl
@[go_sem] theorem tstr_117 : tstr Try.prog 117 = false := by kernel_rfl
@[go_sem] theorem tagg_117 : tagg Try.prog 117 = (some false : Option Bool) := by kernel_rfl
@[go_sem] theorem tby_117 : tby Try.prog 117 = 8 := by kernel_rfl
@[go_sem] theorem tkind_117 : tkind Try.prog 117 = (some 0 : Option Nat) := by kernel_rfl
@[go_sem] theorem teq_117 : teq Try.prog 117 = (none : Option (List Nat)) := by kernel_rfl
@[go_sem] theorem tpt_117 : tpt Try.prog 117 = false := by kernel_rfl
@[go_sem] theorem tzA_117 : tzA Try.prog 117 = (some (AV.v (Value.int IntKind.u64 (0))) : Option AV) := by kernel_rfl
@[go_sem] theorem tund_118 : tund Try.prog 118 = true := by kernel_rfl
@[go_sem] theorem tsz_118 : tsz Try.prog 118 = 1 := by kernel_rfl
@[go_sem] theorem tel_118 : tel Try.prog 118 = (none : Option TypeId) := by kernel_rfl
@[go_sem] theorem tarr_118 : tarr Try.prog 118 = (none : Option (Nat × TypeId)) := by kernel_rfl
@[go_sem] theorem tfld_118 : tfld Try.prog 118 = (none : Option (List (Nat × TypeId))) := by kernel_rfl
@[go_sem] theorem tint_118 : tint Try.prog 118 = (some IntKind.u64 : Option IntKind) := by kernel_rfl
@[go_sem] theorem tstr_118 : tstr Try.prog 118 = false := by kernel_rfl
@[go_sem] theorem tagg_118 : tagg Try.prog 118 = (some false : Option Bool) := by kernel_rfl
@[go_sem] theorem tby_118 : tby Try.prog 118 = 8 := by kernel_rfl
@[go_sem] theorem tkind_118 : tkind Try.prog 118 = (some 0 : Option Nat) := by kernel_rfl
@[go_sem] theorem teq_118 : teq Try.prog 118 = (none : Option (List Nat)) := by kernel_rfl
@[go_sem] theorem tpt_118 : tpt Try.prog 118 = false := by kernel_rfl
@[go_sem] theorem tzA_118 : tzA Try.prog 118 = (some (AV.v (Value.int IntKind.u64 (0))) : Option AV) := by kernel_rfl
@[go_sem] theorem tund_119 : tund Try.prog 119 = true := by kernel_rfl
@[go_sem] theorem tsz_119 : tsz Try.prog 119 = 1 := by kernel_rfl
@[go_sem] theorem tel_119 : tel Try.prog 119 = (none : Option TypeId) := by kernel_rfl
@[go_sem] theorem tarr_119 : tarr Try.prog 119 = (none : Option (Nat × TypeId)) := by kernel_rfl
@[go_sem] theorem tfld_119 : tfld Try.prog 119 = (none : Option (List (Nat × TypeId))) := by kernel_rfl
@[go_sem] theorem tint_119 : tint Try.prog 119 = (none : Option IntKind) := by kernel_rfl
@[go_sem] theorem tstr_119 : tstr Try.prog 119 = false := by kernel_rfl
@[go_sem] theorem tagg_119 : tagg Try.prog 119 = (some false : Option Bool) := by kernel_rfl
@[go_sem] theorem tby_119 : tby Try.prog 119 = 8 := by kernel_rfl
@[go_sem] theorem tkind_119 : tkind Try.prog 119 = (none : Option Nat) := by kernel_rfl
@[go_sem] theorem teq_119 : teq Try.prog 119 = (none : Option (List Nat)) := by kernel_rfl
@[go_sem] theorem tpt_119 : tpt Try.prog 119 = false := by kernel_rfl
@[go_sem] theorem tzA_119 : tzA Try.prog 119 = (some (AV.v Value.nilFunc) : Option AV) := by kernel_rfl
@[go_sem] theorem tund_120 : tund Try.prog 120 = true := by kernel_rfl
@[go_sem] theorem tsz_120 : tsz Try.prog 120 = 1 := by kernel_rfl
@[go_sem] theorem tel_120 : tel Try.prog 120 = (none : Option TypeId) := by kernel_rfl
@[go_sem] theorem tarr_120 : tarr Try.prog 120 = (none : Option (Nat × TypeId)) := by kernel_rfl
@[go_sem] theorem tfld_120 : tfld Try.prog 120 = (none : Option (List (Nat × TypeId))) := by kernel_rfl
@[go_sem] theorem tint_120 : tint Try.prog 120 = (none : Option IntKind) := by kernel_rfl
@[go_sem] theorem tstr_120 : tstr Try.prog 120 = false := by kernel_rfl
@[go_sem] theorem tagg_120 : tagg Try.prog 120 = (some false : Option Bool) := by kernel_rfl
@[go_sem] theorem tby_120 : tby Try.prog 120 = 8 := by kernel_rfl
@[go_sem] theorem tkind_120 : tkind Try.prog 120 = (none : Option Nat) := by kernel_rfl
@[go_sem] theorem teq_120 : teq Try.prog 120 = (none : Option (List Nat)) := by kernel_rfl
@[go_sem] theorem tpt_120 : tpt Try.prog 120 = false := by kernel_rfl
@[go_sem] theorem tzA_120 : tzA Try.prog 120 = (some (AV.v Value.nilFunc) : Option AV) := by kernel_rfl
@[go_sem] theorem tund_121 : tund Try.prog 121 = true := by kernel_rfl
@[go_sem] theorem tsz_121 : tsz Try.prog 121 = 1 := by kernel_rfl
@[go_sem] theorem tel_121 : tel Try.prog 121 = (none : Option TypeId) := by kernel_rfl
@[go_sem] theorem tarr_121 : tarr Try.prog 121 = (none : Option (Nat × TypeId)) := by kernel_rfl
@[go_sem] theorem tfld_121 : tfld Try.prog 121 = (none : Option (List (Nat × TypeId))) := by kernel_rfl
@[go_sem] theorem tint_121 : tint Try.prog 121 = (none : Option IntKind) := by kernel_rfl
@[go_sem] theorem tstr_121 : tstr Try.prog 121 = false := by kernel_rfl
@[go_sem] theorem tagg_121 : tagg Try.prog 121 = (some false : Option Bool) := by kernel_rfl
@[go_sem] theorem tby_121 : tby Try.prog 121 = 8 := by kernel_rfl
@[go_sem] theorem tkind_121 : tkind Try.prog 121 = (none : Option Nat) := by kernel_rfl
@[go_sem] theorem teq_121 : teq Try.prog 121 = (none : Option (List Nat)) := by kernel_rfl
@[go_sem] theorem tpt_121 : tpt Try.prog 121 = false := by kernel_rfl
@[go_sem] theorem tzA_121 : tzA Try.prog 121 = (some (AV.v Value.nilFunc) : Option AV) := by kernel_rfl
@[go_sem] theorem tund_122 : tund Try.prog 122 = true := by kernel_rfl
@[go_sem] theorem tsz_122 : tsz Try.prog 122 = 1 := by kernel_rfl
@[go_sem] theorem tel_122 : tel Try.prog 122 = (none : Option TypeId) := by kernel_rfl
@[go_sem] theorem tarr_122 : tarr Try.prog 122 = (none : Option (Nat × TypeId)) := by kernel_rfl
@[go_sem] theorem tfld_122 : tfld Try.prog 122 = (none : Option (List (Nat × TypeId))) := by kernel_rfl
@[go_sem] theorem tint_122 : tint Try.prog 122 = (none : Option IntKind) := by kernel_rfl
@[go_sem] theorem tstr_122 : tstr Try.prog 122 = false := by kernel_rfl
@[go_sem] theorem tagg_122 : tagg Try.prog 122 = (some false : Option Bool) := by kernel_rfl
@[go_sem] theorem tby_122 : tby Try.prog 122 = 8 := by kernel_rfl
@[go_sem] theorem tkind_122 : tkind Try.prog 122 = (none : Option Nat) := by kernel_rfl
@[go_sem] theorem teq_122 : teq Try.prog 122 = (none : Option (List Nat)) := by kernel_rfl
@[go_sem] theorem tpt_122 : tpt Try.prog 122 = true := by kernel_rfl
@[go_sem] theorem tzA_122 : tzA Try.prog 122 = (some (AV.v (Value.pointer none)) : Option AV) := by kernel_rfl
@[go_sem] theorem tund_123 : tund Try.prog 123 = true := by kernel_rfl
@[go_sem] theorem tsz_123 : tsz Try.prog 123 = 1 := by kernel_rfl
@[go_sem] theorem tel_123 : tel Try.prog 123 = (none : Option TypeId) := by kernel_rfl
@[go_sem] theorem tarr_123 : tarr Try.prog 123 = (none : Option (Nat × TypeId)) := by kernel_rfl
@[go_sem] theorem tfld_123 : tfld Try.prog 123 = (none : Option (List (Nat × TypeId))) := by kernel_rfl
@[go_sem] theorem tint_123 : tint Try.prog 123 = (none : Option IntKind) := by kernel_rfl
@[go_sem] theorem tstr_123 : tstr Try.prog 123 = false := by kernel_rfl
@[go_sem] theorem tagg_123 : tagg Try.prog 123 = (some false : Option Bool) := by kernel_rfl
@[go_sem] theorem tby_123 : tby Try.prog 123 = 8 := by kernel_rfl
@[go_sem] theorem tkind_123 : tkind Try.prog 123 = (none : Option Nat) := by kernel_rfl
@[go_sem] theorem teq_123 : teq Try.prog 123 = (none : Option (List Nat)) := by kernel_rfl
@[go_sem] theorem tpt_123 : tpt Try.prog 123 = false := by kernel_rfl
@[go_sem] theorem tzA_123 : tzA Try.prog 123 = (some (AV.v Value.nilFunc) : Option AV) := by kernel_rfl
@[go_sem] theorem tund_124 : tund Try.prog 124 = true := by kernel_rfl
@[go_sem] theorem tsz_124 : tsz Try.prog 124 = 1 := by kernel_rfl
@[go_sem] theorem tel_124 : tel Try.prog 124 = (none : Option TypeId) := by kernel_rfl
@[go_sem] theorem tarr_124 : tarr Try.prog 124 = (none : Option (Nat × TypeId)) := by kernel_rfl
@[go_sem] theorem tfld_124 : tfld Try.prog 124 = (none : Option (List (Nat × TypeId))) := by kernel_rfl
@[go_sem] theorem tint_124 : tint Try.prog 124 = (none : Option IntKind) := by kernel_rfl
@[go_sem] theorem tstr_124 : tstr Try.prog 124 = false := by kernel_rfl
@[go_sem] theorem tagg_124 : tagg Try.prog 124 = (some false : Option Bool) := by kernel_rfl
@[go_sem] theorem tby_124 : tby Try.prog 124 = 8 := by kernel_rfl
@[go_sem] theorem tkind_124 : tkind Try.prog 124 = (none : Option Nat) := by kernel_rfl
@[go_sem] theorem teq_124 : teq Try.prog 124 = (none : Option (List Nat)) := by kernel_rfl
@[go_sem] theorem tpt_124 : tpt Try.prog 124 = true := by kernel_rfl
@[go_sem] theorem tzA_124 : tzA Try.prog 124 = (some (AV.v (Value.pointer none)) : Option AV) := by kernel_rfl
@[go_sem] theorem tund_125 : tund Try.prog 125 = true := by kernel_rfl
@[go_sem] theorem tsz_125 : tsz Try.prog 125 = 1 := by kernel_rfl
@[go_sem] theorem tel_125 : tel Try.prog 125 = (none : Option TypeId) := by kernel_rfl
@[go_sem] theorem tarr_125 : tarr Try.prog 125 = (none : Option (Nat × TypeId)) := by kernel_rfl
@[go_sem] theorem tfld_125 : tfld Try.prog 125 = (none : Option (List (Nat × TypeId))) := by kernel_rfl
@[go_sem] theorem tint_125 : tint Try.prog 125 = (none : Option IntKind) := by kernel_rfl
@[go_sem] theorem tstr_125 : tstr Try.prog 125 = false := by kernel_rfl
@[go_sem] theorem tagg_125 : tagg Try.prog 125 = (some false : Option Bool) := by kernel_rfl
@[go_sem] theorem tby_125 : tby Try.prog 125 = 0 := by kernel_rfl
@[go_sem] theorem tkind_125 : tkind Try.prog 125 = (none : Option Nat) := by kernel_rfl
@[go_sem] theorem teq_125 : teq Try.prog 125 = (none : Option (List Nat)) := by kernel_rfl
@[go_sem] theorem tpt_125 : tpt Try.prog 125 = false := by kernel_rfl
@[go_sem] theorem tzA_125 : tzA Try.prog 125 = (some (AV.tup [AV.v (Value.int IntKind.i64 (0)), AV.v (Value.int IntKind.i64 (0))]) : Option AV) := by kernel_rfl
@[go_sem] theorem tund_126 : tund Try.prog 126 = true := by kernel_rfl
@[go_sem] theorem tsz_126 : tsz Try.prog 126 = 1 := by kernel_rfl
@[go_sem] theorem tel_126 : tel Try.prog 126 = (none : Option TypeId) := by kernel_rfl
@[go_sem] theorem tarr_126 : tarr Try.prog 126 = (none : Option (Nat × TypeId)) := by kernel_rfl
@[go_sem] theorem tfld_126 : tfld Try.prog 126 = (none : Option (List (Nat × TypeId))) := by kernel_rfl
@[go_sem] theorem tint_126 : tint Try.prog 126 = (none : Option IntKind) := by kernel_rfl
@[go_sem] theorem tstr_126 : tstr Try.prog 126 = false := by kernel_rfl
@[go_sem] theorem tagg_126 : tagg Try.prog 126 = (some false : Option Bool) := by kernel_rfl
@[go_sem] theorem tby_126 : tby Try.prog 126 = 8 := by kernel_rfl
@[go_sem] theorem tkind_126 : tkind Try.prog 126 = (none : Option Nat) := by kernel_rfl
@[go_sem] theorem teq_126 : teq Try.prog 126 = (none : Option (List Nat)) := by kernel_rfl
@[go_sem] theorem tpt_126 : tpt Try.prog 126 = false := by kernel_rfl
@[go_sem] theorem tzA_126 : tzA Try.prog 126 = (some (AV.v Value.nilFunc) : Option AV) := by kernel_rfl
@[go_sem] theorem tund_127 : tund Try.prog 127 = true := by kernel_rfl
@[go_sem] theorem tsz_127 : tsz Try.prog 127 = 1 := by kernel_rfl
@[go_sem] theorem tel_127 : tel Try.prog 127 = (none : Option TypeId) := by kernel_rfl
@[go_sem] theorem tarr_127 : tarr Try.prog 127 = (none : Option (Nat × TypeId)) := by kernel_rfl
@[go_sem] theorem tfld_127 : tfld Try.prog 127 = (none : Option (List (Nat × TypeId))) := by kernel_rfl
@[go_sem] theorem tint_127 : tint Try.prog 127 = (none : Option IntKind) := by kernel_rfl
@[go_sem] theorem tstr_127 : tstr Try.prog 127 = false := by kernel_rfl
@[go_sem] theorem tagg_127 : tagg Try.prog 127 = (some false : Option Bool) := by kernel_rfl
@[go_sem] theorem tby_127 : tby Try.prog 127 = 8 := by kernel_rfl
@[go_sem] theorem tkind_127 : tkind Try.prog 127 = (none : Option Nat) := by kernel_rfl
@[go_sem] theorem teq_127 : teq Try.prog 127 = (none : Option (List Nat)) := by kernel_rfl
@[go_sem] theorem tpt_127 : tpt Try.prog 127 = false := by kernel_rfl
@[go_sem] theorem tzA_127 : tzA Try.prog 127 = (some (AV.v Value.nilFunc) : Option AV) := by kernel_rfl
@[go_sem] theorem tund_128 : tund Try.prog 128 = true := by kernel_rfl
@[go_sem] theorem tsz_128 : tsz Try.prog 128 = 4 := by kernel_rfl
@[go_sem] theorem tel_128 : tel Try.prog 128 = (none : Option TypeId) := by kernel_rfl
@[go_sem] theorem tarr_128 : tarr Try.prog 128 = (none : Option (Nat × TypeId)) := by kernel_rfl
@[go_sem] theorem tfld_128 : tfld Try.prog 128 = (some [(0, 17), (1, 17), (2, 17), (3, 9)] : Option (List (Nat × TypeId))) := by kernel_rfl
@[go_sem] theorem tint_128 : tint Try.prog 128 = (none : Option IntKind) := by kernel_rfl
@[go_sem] theorem tstr_128 : tstr Try.prog 128 = false := by kernel_rfl
@[go_sem] theorem tagg_128 : tagg Try.prog 128 = (some true : Option Bool) := by kernel_rfl
@[go_sem] theorem tby_128 : tby Try.prog 128 = 40 := by kernel_rfl
@[go_sem] theorem tkind_128 : tkind Try.prog 128 = (none : Option Nat) := by kernel_rfl
@[go_sem] theorem teq_128 : teq Try.prog 128 = (none : Option (List Nat)) := by kernel_rfl
@[go_sem] theorem tpt_128 : tpt Try.prog 128 = false := by kernel_rfl
@[go_sem] theorem tzA_128 : tzA Try.prog 128 = (some (AV.agg [AV.v (Value.pointer none), AV.v (Value.pointer none), AV.v (Value.pointer none), AV.v (Value.string ByteArray.empty)]) : Option AV) := by kernel_rfl
@[go_sem] theorem tund_129 : tund Try.prog 129 = true := by kernel_rfl
@[go_sem] theorem tsz_129 : tsz Try.prog 129 = 4 := by kernel_rfl
@[go_sem] theorem tel_129 : tel Try.prog 129 = (none : Option TypeId) := by kernel_rfl
@[go_sem] theorem tarr_129 : tarr Try.prog 129 = (none : Option (Nat × TypeId)) := by kernel_rfl
@[go_sem] theorem tfld_129 : tfld Try.prog 129 = (some [(0, 17), (1, 17), (2, 17), (3, 9)] : Option (List (Nat × TypeId))) := by kernel_rfl
@[go_sem] theorem tint_129 : tint Try.prog 129 = (none : Option IntKind) := by kernel_rfl
@[go_sem] theorem tstr_129 : tstr Try.prog 129 = false := by kernel_rfl
@[go_sem] theorem tagg_129 : tagg Try.prog 129 = (some true : Option Bool) := by kernel_rfl
@[go_sem] theorem tby_129 : tby Try.prog 129 = 40 := by kernel_rfl
@[go_sem] theorem tkind_129 : tkind Try.prog 129 = (none : Option Nat) := by kernel_rfl
@[go_sem] theorem teq_129 : teq Try.prog 129 = (none : Option (List Nat)) := by kernel_rfl
@[go_sem] theorem tpt_129 : tpt Try.prog 129 = false := by kernel_rfl
@[go_sem] theorem tzA_129 : tzA Try.prog 129 = (some (AV.agg [AV.v (Value.pointer none), AV.v (Value.pointer none), AV.v (Value.pointer none), AV.v (Value.string ByteArray.empty)]) : Option AV) := by kernel_rfl
@[go_sem] theorem tund_130 : tund Try.prog 130 = true := by kernel_rfl
@[go_sem] theorem tsz_130 : tsz Try.prog 130 = 0 := by kernel_rfl
@[go_sem] theorem tel_130 : tel Try.prog 130 = (none : Option TypeId) := by kernel_rfl
@[go_sem] theorem tarr_130 : tarr Try.prog 130 = (some (0, 16) : Option (Nat × TypeId)) := by kernel_rfl
@[go_sem] theorem tfld_130 : tfld Try.prog 130 = (none : Option (List (Nat × TypeId))) := by kernel_rfl
@[go_sem] theorem tint_130 : tint Try.prog 130 = (none : Option IntKind) := by kernel_rfl
@[go_sem] theorem tstr_130 : tstr Try.prog 130 = false := by kernel_rfl
@[go_sem] theorem tagg_130 : tagg Try.prog 130 = (some true : Option Bool) := by kernel_rfl
@[go_sem] theorem tby_130 : tby Try.prog 130 = 0 := by kernel_rfl
@[go_sem] theorem tkind_130 : tkind Try.prog 130 = (none : Option Nat) := by kernel_rfl
@[go_sem] theorem teq_130 : teq Try.prog 130 = (none : Option (List Nat)) := by kernel_rfl
@[go_sem] theorem tpt_130 : tpt Try.prog 130 = false := by kernel_rfl
@[go_sem] theorem tzA_130 : tzA Try.prog 130 = (some (AV.agg []) : Option AV) := by kernel_rfl
@[go_sem] theorem tund_131 : tund Try.prog 131 = true := by kernel_rfl
@[go_sem] theorem tsz_131 : tsz Try.prog 131 = 0 := by kernel_rfl
@[go_sem] theorem tel_131 : tel Try.prog 131 = (none : Option TypeId) := by kernel_rfl
@[go_sem] theorem tarr_131 : tarr Try.prog 131 = (none : Option (Nat × TypeId)) := by kernel_rfl
@[go_sem] theorem tfld_131 : tfld Try.prog 131 = (some [(0, 130)] : Option (List (Nat × TypeId))) := by kernel_rfl
@[go_sem] theorem tint_131 : tint Try.prog 131 = (none : Option IntKind) := by kernel_rfl
@[go_sem] theorem tstr_131 : tstr Try.prog 131 = false := by kernel_rfl
@[go_sem] theorem tagg_131 : tagg Try.prog 131 = (some true : Option Bool) := by kernel_rfl
@[go_sem] theorem tby_131 : tby Try.prog 131 = 0 := by kernel_rfl
@[go_sem] theorem tkind_131 : tkind Try.prog 131 = (none : Option Nat) := by kernel_rfl
@[go_sem] theorem teq_131 : teq Try.prog 131 = (none : Option (List Nat)) := by kernel_rfl
@[go_sem] theorem tpt_131 : tpt Try.prog 131 = false := by kernel_rfl
@[go_sem] theorem tzA_131 : tzA Try.prog 131 = (some (AV.agg []) : Option AV) := by kernel_rfl
@[go_sem] theorem tund_132 : tund Try.prog 132 = true := by kernel_rfl
@[go_sem] theorem tsz_132 : tsz Try.prog 132 = 0 := by kernel_rfl
@[go_sem] theorem tel_132 : tel Try.prog 132 = (none : Option TypeId) := by kernel_rfl
@[go_sem] theorem tarr_132 : tarr Try.prog 132 = (none : Option (Nat × TypeId)) := by kernel_rfl
@[go_sem] theorem tfld_132 : tfld Try.prog 132 = (some [(0, 130)] : Option (List (Nat × TypeId))) := by kernel_rfl
@[go_sem] theorem tint_132 : tint Try.prog 132 = (none : Option IntKind) := by kernel_rfl
@[go_sem] theorem tstr_132 : tstr Try.prog 132 = false := by kernel_rfl
@[go_sem] theorem tagg_132 : tagg Try.prog 132 = (some true : Option Bool) := by kernel_rfl
@[go_sem] theorem tby_132 : tby Try.prog 132 = 0 := by kernel_rfl
@[go_sem] theorem tkind_132 : tkind Try.prog 132 = (none : Option Nat) := by kernel_rfl
@[go_sem] theorem teq_132 : teq Try.prog 132 = (none : Option (List Nat)) := by kernel_rfl
@[go_sem] theorem tpt_132 : tpt Try.prog 132 = false := by kernel_rfl
@[go_sem] theorem tzA_132 : tzA Try.prog 132 = (some (AV.agg []) : Option AV) := by kernel_rfl
@[go_sem] theorem tund_133 : tund Try.prog 133 = true := by kernel_rfl
@[go_sem] theorem tsz_133 : tsz Try.prog 133 = 1 := by kernel_rfl
@[go_sem] theorem tel_133 : tel Try.prog 133 = (none : Option TypeId) := by kernel_rfl
@[go_sem] theorem tarr_133 : tarr Try.prog 133 = (none : Option (Nat × TypeId)) := by kernel_rfl
@[go_sem] theorem tfld_133 : tfld Try.prog 133 = (none : Option (List (Nat × TypeId))) := by kernel_rfl
@[go_sem] theorem tint_133 : tint Try.prog 133 = (none : Option IntKind) := by kernel_rfl
@[go_sem] theorem tstr_133 : tstr Try.prog 133 = false := by kernel_rfl
@[go_sem] theorem tagg_133 : tagg Try.prog 133 = (some false : Option Bool) := by kernel_rfl
@[go_sem] theorem tby_133 : tby Try.prog 133 = 8 := by kernel_rfl
@[go_sem] theorem tkind_133 : tkind Try.prog 133 = (none : Option Nat) := by kernel_rfl
@[go_sem] theorem teq_133 : teq Try.prog 133 = (none : Option (List Nat)) := by kernel_rfl
@[go_sem] theorem tpt_133 : tpt Try.prog 133 = false := by kernel_rfl
@[go_sem] theorem tzA_133 : tzA Try.prog 133 = (some (AV.v Value.nilFunc) : Option AV) := by kernel_rfl
@[go_sem] theorem tund_134 : tund Try.prog 134 = true := by kernel_rfl
@[go_sem] theorem tsz_134 : tsz Try.prog 134 = 1 := by kernel_rfl
@[go_sem] theorem tel_134 : tel Try.prog 134 = (none : Option TypeId) := by kernel_rfl
@[go_sem] theorem tarr_134 : tarr Try.prog 134 = (none : Option (Nat × TypeId)) := by kernel_rfl
@[go_sem] theorem tfld_134 : tfld Try.prog 134 = (none : Option (List (Nat × TypeId))) := by kernel_rfl
@[go_sem] theorem tint_134 : tint Try.prog 134 = (some IntKind.u8 : Option IntKind) := by kernel_rfl
@[go_sem] theorem tstr_134 : tstr Try.prog 134 = false := by kernel_rfl
@[go_sem] theorem tagg_134 : tagg Try.prog 134 = (some false : Option Bool) := by kernel_rfl
@[go_sem] theorem tby_134 : tby Try.prog 134 = 1 := by kernel_rfl
@[go_sem] theorem tkind_134 : tkind Try.prog 134 = (some 0 : Option Nat) := by kernel_rfl
@[go_sem] theorem teq_134 : teq Try.prog 134 = (none : Option (List Nat)) := by kernel_rfl
@[go_sem] theorem tpt_134 : tpt Try.prog 134 = false := by kernel_rfl
@[go_sem] theorem tzA_134 : tzA Try.prog 134 = (some (AV.v (Value.int IntKind.u8 (0))) : Option AV) := by kernel_rfl
@[go_sem] theorem tund_135 : tund Try.prog 135 = true := by kernel_rfl
@[go_sem] theorem tsz_135 : tsz Try.prog 135 = 1 := by kernel_rfl
@[go_sem] theorem tel_135 : tel Try.prog 135 = (none : Option TypeId) := by kernel_rfl
@[go_sem] theorem tarr_135 : tarr Try.prog 135 = (none : Option (Nat × TypeId)) := by kernel_rfl
@[go_sem] theorem tfld_135 : tfld Try.prog 135 = (none : Option (List (Nat × TypeId))) := by kernel_rfl
@[go_sem] theorem tint_135 : tint Try.prog 135 = (some IntKind.u8 : Option IntKind) := by kernel_rfl
@[go_sem] theorem tstr_135 : tstr Try.prog 135 = false := by kernel_rfl
@[go_sem] theorem tagg_135 : tagg Try.prog 135 = (some false : Option Bool) := by kernel_rfl
@[go_sem] theorem tby_135 : tby Try.prog 135 = 1 := by kernel_rfl
@[go_sem] theorem tkind_135 : tkind Try.prog 135 = (some 0 : Option Nat) := by kernel_rfl
@[go_sem] theorem teq_135 : teq Try.prog 135 = (none : Option (List Nat)) := by kernel_rfl
@[go_sem] theorem tpt_135 : tpt Try.prog 135 = false := by kernel_rfl
@[go_sem] theorem tzA_135 : tzA Try.prog 135 = (some (AV.v (Value.int IntKind.u8 (0))) : Option AV) := by kernel_rfl
@[go_sem] theorem tund_136 : tund Try.prog 136 = true := by kernel_rfl
@[go_sem] theorem tsz_136 : tsz Try.prog 136 = 1 := by kernel_rfl
@[go_sem] theorem tel_136 : tel Try.prog 136 = (none : Option TypeId) := by kernel_rfl
@[go_sem] theorem tarr_136 : tarr Try.prog 136 = (none : Option (Nat × TypeId)) := by kernel_rfl
@[go_sem] theorem tfld_136 : tfld Try.prog 136 = (none : Option (List (Nat × TypeId))) := by kernel_rfl
@[go_sem] theorem tint_136 : tint Try.prog 136 = (none : Option IntKind) := by kernel_rfl
@[go_sem] theorem tstr_136 : tstr Try.prog 136 = false := by kernel_rfl
@[go_sem] theorem tagg_136 : tagg Try.prog 136 = (some false : Option Bool) := by kernel_rfl
@[go_sem] theorem tby_136 : tby Try.prog 136 = 8 := by kernel_rfl
@[go_sem] theorem tkind_136 : tkind Try.prog 136 = (none : Option Nat) := by kernel_rfl
@[go_sem] theorem teq_136 : teq Try.prog 136 = (none : Option (List Nat)) := by kernel_rfl
@[go_sem] theorem tpt_136 : tpt Try.prog 136 = false := by kernel_rfl
@[go_sem] theorem tzA_136 : tzA Try.prog 136 = (some (AV.v Value.nilFunc) : Option AV) := by kernel_rfl
@[go_sem] theorem tund_137 : tund Try.prog 137 = true := by kernel_rfl
@[go_sem] theorem tsz_137 : tsz Try.prog 137 = 1 := by kernel_rfl
@[go_sem] theorem tel_137 : tel Try.prog 137 = (none : Option TypeId) := by kernel_rfl
@[go_sem] theorem tarr_137 : tarr Try.prog 137 = (none : Option (Nat × TypeId)) := by kernel_rfl
@[go_sem] theorem tfld_137 : tfld Try.prog 137 = (none : Option (List (Nat × TypeId))) := by kernel_rfl
@[go_sem] theorem tint_137 : tint Try.prog 137 = (none : Option IntKind) := by kernel_rfl
@[go_sem] theorem tstr_137 : tstr Try.prog 137 = false := by kernel_rfl
@[go_sem] theorem tagg_137 : tagg Try.prog 137 = (some false : Option Bool) := by kernel_rfl
@[go_sem] theorem tby_137 : tby Try.prog 137 = 8 := by kernel_rfl
@[go_sem] theorem tkind_137 : tkind Try.prog 137 = (none : Option Nat) := by kernel_rfl
@[go_sem] theorem teq_137 : teq Try.prog 137 = (none : Option (List Nat)) := by kernel_rfl
@[go_sem] theorem tpt_137 : tpt Try.prog 137 = true := by kernel_rfl
@[go_sem] theorem tzA_137 : tzA Try.prog 137 = (some (AV.v (Value.pointer none)) : Option AV) := by kernel_rfl
@[go_sem] theorem tund_138 : tund Try.prog 138 = true := by kernel_rfl
@[go_sem] theorem tsz_138 : tsz Try.prog 138 = 1 := by kernel_rfl
@[go_sem] theorem tel_138 : tel Try.prog 138 = (none : Option TypeId) := by kernel_rfl
@[go_sem] theorem tarr_138 : tarr Try.prog 138 = (none : Option (Nat × TypeId)) := by kernel_rfl
@[go_sem] theorem tfld_138 : tfld Try.prog 138 = (none : Option (List (Nat × TypeId))) := by kernel_rfl
@[go_sem] theorem tint_138 : tint Try.prog 138 = (some IntKind.i32 : Option IntKind) := by kernel_rfl
@[go_sem] theorem tstr_138 : tstr Try.prog 138 = false := by kernel_rfl
@[go_sem] theorem tagg_138 : tagg Try.prog 138 = (some false : Option Bool) := by kernel_rfl
@[go_sem] theorem tby_138 : tby Try.prog 138 = 4 := by kernel_rfl
@[go_sem] theorem tkind_138 : tkind Try.prog 138 = (some 0 : Option Nat) := by kernel_rfl
@[go_sem] theorem teq_138 : teq Try.prog 138 = (none : Option (List Nat)) := by kernel_rfl
@[go_sem] theorem tpt_138 : tpt Try.prog 138 = false := by kernel_rfl
@[go_sem] theorem tzA_138 : tzA Try.prog 138 = (some (AV.v (Value.int IntKind.i32 (0))) : Option AV) := by kernel_rfl
@[go_sem] theorem tund_139 : tund Try.prog 139 = true := by kernel_rfl
@[go_sem] theorem tsz_139 : tsz Try.prog 139 = 1 := by kernel_rfl
@[go_sem] theorem tel_139 : tel Try.prog 139 = (none : Option TypeId) := by kernel_rfl
@[go_sem] theorem tarr_139 : tarr Try.prog 139 = (none : Option (Nat × TypeId)) := by kernel_rfl
@[go_sem] theorem tfld_139 : tfld Try.prog 139 = (none : Option (List (Nat × TypeId))) := by kernel_rfl
@[go_sem] theorem tint_139 : tint Try.prog 139 = (some IntKind.i32 : Option IntKind) := by kernel_rfl
@[go_sem] theorem tstr_139 : tstr Try.prog 139 = false := by kernel_rfl
@[go_sem] theorem tagg_139 : tagg Try.prog 139 = (some false : Option Bool) := by kernel_rfl
@[go_sem] theorem tby_139 : tby Try.prog 139 = 4 := by kernel_rfl
@[go_sem] theorem tkind_139 : tkind Try.prog 139 = (some 0 : Option Nat) := by kernel_rfl
@[go_sem] theorem teq_139 : teq Try.prog 139 = (none : Option (List Nat)) := by kernel_rfl
@[go_sem] theorem tpt_139 : tpt Try.prog 139 = false := by kernel_rfl
@[go_sem] theorem tzA_139 : tzA Try.prog 139 = (some (AV.v (Value.int IntKind.i32 (0))) : Option AV) := by kernel_rfl
@[go_sem] theorem tund_140 : tund Try.prog 140 = true := by kernel_rfl
@[go_sem] theorem tsz_140 : tsz Try.prog 140 = 11 := by kernel_rfl
@[go_sem] theorem tel_140 : tel Try.prog 140 = (none : Option TypeId) := by kernel_rfl
@[go_sem] theorem tarr_140 : tarr Try.prog 140 = (none : Option (Nat × TypeId)) := by kernel_rfl
@[go_sem] theorem tfld_140 : tfld Try.prog 140 = (some [(0, 12), (1, 12), (2, 115), (3, 134), (4, 5), (5, 5), (6, 135), (7, 136), (8, 137), (9, 138), (10, 139)] : Option (List (Nat × TypeId))) := by kernel_rfl
@[go_sem] theorem tint_140 : tint Try.prog 140 = (none : Option IntKind) := by kernel_rfl
@[go_sem] theorem tstr_140 : tstr Try.prog 140 = false := by kernel_rfl
@[go_sem] theorem tagg_140 : tagg Try.prog 140 = (some true : Option Bool) := by kernel_rfl
@[go_sem] theorem tby_140 : tby Try.prog 140 = 48 := by kernel_rfl
@[go_sem] theorem tkind_140 : tkind Try.prog 140 = (none : Option Nat) := by kernel_rfl
@[go_sem] theorem teq_140 : teq Try.prog 140 = (none : Option (List Nat)) := by kernel_rfl
@[go_sem] theorem tpt_140 : tpt Try.prog 140 = false := by kernel_rfl
@[go_sem] theorem tzA_140 : tzA Try.prog 140 = (some (AV.agg [AV.v (Value.int IntKind.u64 (0)), AV.v (Value.int IntKind.u64 (0)), AV.v (Value.int IntKind.u32 (0)), AV.v (Value.int IntKind.u8 (0)), AV.v (Value.int IntKind.u8 (0)), AV.v (Value.int IntKind.u8 (0)), AV.v (Value.int IntKind.u8 (0)), AV.v Value.nilFunc, AV.v (Value.pointer none), AV.v (Value.int IntKind.i32 (0)), AV.v (Value.int IntKind.i32 (0))]) : Option AV) := by kernel_rfl
@[go_sem] theorem tund_141 : tund Try.prog 141 = true := by kernel_rfl
@[go_sem] theorem tsz_141 : tsz Try.prog 141 = 11 := by kernel_rfl
@[go_sem] theorem tel_141 : tel Try.prog 141 = (none : Option TypeId) := by kernel_rfl
@[go_sem] theorem tarr_141 : tarr Try.prog 141 = (none : Option (Nat × TypeId)) := by kernel_rfl
@[go_sem] theorem tfld_141 : tfld Try.prog 141 = (some [(0, 12), (1, 12), (2, 115), (3, 134), (4, 5), (5, 5), (6, 135), (7, 136), (8, 137), (9, 138), (10, 139)] : Option (List (Nat × TypeId))) := by kernel_rfl
@[go_sem] theorem tint_141 : tint Try.prog 141 = (none : Option IntKind) := by kernel_rfl
@[go_sem] theorem tstr_141 : tstr Try.prog 141 = false := by kernel_rfl
@[go_sem] theorem tagg_141 : tagg Try.prog 141 = (some true : Option Bool) := by kernel_rfl
@[go_sem] theorem tby_141 : tby Try.prog 141 = 48 := by kernel_rfl
@[go_sem] theorem tkind_141 : tkind Try.prog 141 = (none : Option Nat) := by kernel_rfl
@[go_sem] theorem teq_141 : teq Try.prog 141 = (none : Option (List Nat)) := by kernel_rfl
@[go_sem] theorem tpt_141 : tpt Try.prog 141 = false := by kernel_rfl
@[go_sem] theorem tzA_141 : tzA Try.prog 141 = (some (AV.agg [AV.v (Value.int IntKind.u64 (0)), AV.v (Value.int IntKind.u64 (0)), AV.v (Value.int IntKind.u32 (0)), AV.v (Value.int IntKind.u8 (0)), AV.v (Value.int IntKind.u8 (0)), AV.v (Value.int IntKind.u8 (0)), AV.v (Value.int IntKind.u8 (0)), AV.v Value.nilFunc, AV.v (Value.pointer none), AV.v (Value.int IntKind.i32 (0)), AV.v (Value.int IntKind.i32 (0))]) : Option AV) := by kernel_rfl
@[go_sem] theorem tund_142 : tund Try.prog 142 = true := by kernel_rfl
@[go_sem] theorem tsz_142 : tsz Try.prog 142 = 1 := by kernel_rfl
@[go_sem] theorem tel_142 : tel Try.prog 142 = (none : Option TypeId) := by kernel_rfl
@[go_sem] theorem tarr_142 : tarr Try.prog 142 = (none : Option (Nat × TypeId)) := by kernel_rfl
@[go_sem] theorem tfld_142 : tfld Try.prog 142 = (none : Option (List (Nat × TypeId))) := by kernel_rfl
@[go_sem] theorem tint_142 : tint Try.prog 142 = (none : Option IntKind) := by kernel_rfl
@[go_sem] theorem tstr_142 : tstr Try.prog 142 = false := by kernel_rfl
@[go_sem] theorem tagg_142 : tagg Try.prog 142 = (some false : Option Bool) := by kernel_rfl
@[go_sem] theorem tby_142 : tby Try.prog 142 = 8 := by kernel_rfl
@[go_sem] theorem tkind_142 : tkind Try.prog 142 = (none : Option Nat) := by kernel_rfl
@[go_sem] theorem teq_142 : teq Try.prog 142 = (none : Option (List Nat)) := by kernel_rfl
@[go_sem] theorem tpt_142 : tpt Try.prog 142 = true := by kernel_rfl
@[go_sem] theorem tzA_142 : tzA Try.prog 142 = (some (AV.v (Value.pointer none)) : Option AV) := by kernel_rfl
end Go.Proofs.Ytcllccpeechdhaa

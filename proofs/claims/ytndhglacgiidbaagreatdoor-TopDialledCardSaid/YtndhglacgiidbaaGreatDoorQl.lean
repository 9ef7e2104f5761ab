/- Dialled at the door: the law TopDialled holds. -/
import Derived.Test.YtndhglacgiidbaaGreatDoorKH
import Derived.Test.YtndhglacgiidbaaGreatDoorRows
import Derived.Test.YtndhglacgiidbaaGreatDoorCards
import Derived.Test.YtndhglacgiidbaaGreatDoorTie
import Derived.ProofKit
import Derived.LaidMore
import Derived.OpenShut
import Derived.Stop.Joined
import Derived.Handed
import Derived.Lay
set_option linter.unusedVariables false
set_option linter.unusedSimpArgs false
set_option maxRecDepth 100000
namespace Go.Vai
open Go.RowKit Go.ChangeShapes Go.WideShapes
theorem liftedG {H : Type} {enc : TypeId × Value → H} {C : Checked} {os : Os} {f : FuncId} {fn : Func} {s : ChangeSpec} {conds : List PathCond} {fresh handsOn : Bool} {tb : TypeId} {ps : List (AV → Prop)} {X : World → Array Value → Prop}
    (hX : ∀ (w w' : World) (args : Array Value), w.heap = w'.heap → X w args → X w' args)
    (own : ownKnob C.prog.godebug = none) (started : os.Started) (noInit : C.prog.inits.idxOf? f = none) (hfn : C.prog.funcs[f]? = some fn)
    (witness : ∃ (w : World) (tape : Tape) (i : Input), w.os = os ∧ (w.forCall tape i).Shaped C.prog ∧ i.vars = [] ∧ Input.okWide C.prog (w.forCall tape i) .any w.heap.size f i ∧
      ((s.pre enc C.prog fn conds false (w.forCall tape i).memory i.args ∧ X (w.forCall tape i).memory i.args) ∧ sizedMet enc C.prog fn (OpenSpec.ofChange s) false (w.forCall tape i).memory i.args) ∧ ({} : Assume).holds C.prog (lone (Frame.enter C.prog f i.args .normal) [] (w.forCall tape i)))
    (hl : laidOutB C.prog = true) (hr : (fn.params.toList.all fun t => C.prog.readableRec t && decide (t < C.prog.types.size)) = true) (hrt : fn.resultTypes = #[tb]) (htb : C.prog.underlying tb = some .bool) (hvars : s.vars = [])
    (hs : ∀ ds : List (DataW H), ds.length = fn.params.size → s.fn H ds = { results := [.lit (.bool true)], args := ds })
    (hop : ∀ w : World, OpensAll C.prog enc w fn.params.toList ps) (hev : ∀ avs, AllP ps avs → Ev C.prog f avs (.v (.bool true))) (hgt : ∀ (w : World) (args : Array Value), X w args → GOK w (Here w)) :
    ReturnsInHanded {} C os f .any (fun w args => (s.pre enc C.prog fn conds false w args ∧ X w args) ∧ sizedMet enc C.prog fn (OpenSpec.ofChange s) false w args) (s.post enc C.prog fn false fresh handsOn false) := by
  refine returnsInHanded_of_change_and (C := C) (X := X) hX own started noInit hfn witness ?_
  intro W base args ds gs before hval hW _ _ hL _
  obtain ⟨p, q, hA, hV, e, hfz, hnd⟩ := hW
  obtain ⟨avs, has, hrep⟩ := opens_args (hop W) hA (fun j t v hj hv => hval j t v (by simpa using hj) (by simpa using hv))
  have := (hev avs has avs _ ⟨rfl, rfl⟩).2 W (Here W) args.toList (fun b hb => hb) (hgt W args hL) hrep
  refine (this.mono ?_)
  rintro e' W' ⟨y, rfl, hx, Im', _, _, hR⟩
  obtain ⟨ob, h1, _⟩ := hR
  have hy : y = .bool true := by
    unfold R1 at h1
    cases h1.2 with | v => rfl
  subst hy
  exact ⟨_, rfl, post_true hl (fun t ht => by simpa using List.all_eq_true.1 hr t ht) hrt htb hvars hs ⟨p, q, hA, hV, e, hfz, hnd⟩ hx⟩
end Go.Vai
namespace Go.Proofs.YtndhglacgiidbaaGreatDoor
open Go.Vai Go Go.Proofs Go.RowKit
open Nat (reduceEqDiff reduceMul reduceAdd reduceDiv reduceLeDiff)
open Int (reduceToNat reduceNe reduceEq reduceLT reduceLE)
theorem own3 : ownKnob Tryz.checked.prog.godebug = none := by kernel_rfl
theorem laidOut3 : laidOutB Tryz.checked.prog = true := by kernel_rfl
abbrev laid3 : List (String × DataW Unit) := [("math/bits.deBruijn32tab", Rows.laid_math_bits_deBruijn32tab), ("math/bits.deBruijn64tab", Rows.laid_math_bits_deBruijn64tab), ("internal/strconv.uint64pow10", Rows.laid_internal_strconv_uint64pow10), ("unicode/utf8.acceptRanges", Rows.laid_unicode_utf8_acceptRanges), ("strconv.ErrRange", Rows.laid_strconv_ErrRange), ("strconv.ErrSyntax", Rows.laid_strconv_ErrSyntax), ("unicode/utf8.first", Rows.laid_unicode_utf8_first)]
theorem gPow : Tryz.prog.globalNamed "internal/strconv.uint64pow10" = some 4 := by kernel_rfl
def powL : List Int := (gtab.headD (0, [])).2.map fun v => match v with | .int _ n => n | _ => 0
theorem gtab_eq : gtab = [(4, powL.map (Value.int .u64))] := by kernel_rfl
theorem laid_eq : (Rows.laid_internal_strconv_uint64pow10 : DataW Unit) = .agg (powL.map fun n => .lit (.int .u64 n)) := by kernel_rfl
theorem pow_len : powL.length = 20 := by kernel_rfl
theorem pow_cells {W : World} (h : laidMetH Tryz.prog laid3 W) : ∃ e fr, W.heap[4]? = some (.cells (powL.map (Value.int .u64)).toArray e fr) := by
  rw [MakeChecks.laidMetH_plain _ _ _ (by kernel_rfl)] at h
  obtain ⟨ps, ⟨_, _, _, _, _, _, _, _, _, _, ⟨_, _, _, _, _, _, _, _, _, _, ⟨g0, t0, cs0, f0, p0, q0, hg0, ht0, hv0, hd0, _, _⟩, _⟩, _⟩, _, _⟩ := h
  obtain rfl := Option.some.inj (gPow.symm.trans hg0)
  have tR : (Tryz.prog.globals[4]?).map (·.type) = some t0 := ht0
  have t79 : t0 = 221 := by
    have : (Tryz.prog.globals[4]?).map (·.type) = some 221 := by kernel_rfl
    exact Option.some.inj (tR.symm.trans this)
  subst t79
  have hcs : cs0.toList = powL.map (Value.int .u64) := by
    obtain ⟨xs, m1, rfl, hx1, hlen, hn, hel⟩ := DataW.trod_array (n := 20) (e := 170) (by kernel_rfl) hd0
    have c1 : Tryz.prog.cellsOf 170 = 1 := by kernel_rfl
    have c2 : Tryz.prog.cellsOf 221 = 20 := by kernel_rfl
    rw [c2] at hlen
    simp only [Prod.mk.injEq] at hx1
    have hx := hx1.1
    rw [laid_eq] at hx
    simp only [DataW.agg.injEq] at hx
    refine List.ext_getElem? fun i => ?_
    by_cases hi : i < 20
    · have h1 := hel i hi
      rw [c1, Nat.mul_one] at h1
      cases hxi : xs[i]? with
      | none => rw [List.getElem?_eq_none_iff] at hxi; omega
      | some x =>
        rw [hxi] at h1
        obtain ⟨n, e1, e2, _⟩ := DataW.trod_int (k := .u64) (by kernel_rfl) h1
        have h2 : (xs.map (·.1))[i]? = some x.1 := by rw [List.getElem?_map, hxi]; rfl
        rw [← hx, List.getElem?_map] at h2
        obtain ⟨r, hr, hr2⟩ := Option.map_eq_some_iff.1 h2
        rw [e2] at hr2
        simp only [DataW.lit.injEq, Lit.int.injEq, true_and] at hr2
        have h3 : (cs0.toList.drop i)[0]? = some (.int .u64 n) := by
          have : ((cs0.toList.drop i).take 1)[0]? = some (.int .u64 n) := by rw [e1]; rfl
          rwa [List.getElem?_take, if_pos (by omega)] at this
        rw [List.getElem?_drop, Nat.add_zero] at h3
        rw [h3, List.getElem?_map, hr, ← hr2]; rfl
    · rw [List.getElem?_eq_none (by omega), List.getElem?_eq_none (by rw [List.length_map, pow_len]; omega)]
  simp only [World.var?, hg0, Option.bind_some] at hv0
  split at hv0
  · rename_i cs e fr hh
    obtain rfl := Option.some.inj hv0
    refine ⟨e, fr, ?_⟩
    rw [hh, ← hcs]
  · cases hv0
theorem gok {W : World} (h : laidMetH Tryz.prog laid3 W) : GOK W (Here W) := by
  intro p hp
  rw [gtab_eq, List.mem_singleton] at hp
  subst hp
  obtain ⟨e, fr, hh⟩ := pow_cells h
  refine ⟨?_, fun i v hv => ⟨?_, ?_⟩, fun _ => ⟨e, fr, hh⟩⟩
  · show 4 < W.heap.size
    exact (Array.getElem?_eq_some_iff.1 hh).1
  · simp only [World.cell?, hh]
    simpa using hv
  · obtain ⟨r, _, rfl⟩ := List.mem_map.1 (List.mem_of_getElem? hv)
    rfl
section
variable {H : Type} {enc : TypeId × Value → H} {w : World}
def OI (a : AV) : Prop := ∃ n, R64 n ∧ a = I n
theorem wf64 {n : Int} : (Lit.int .i64 n).wf = true ↔ R64 n := by
  have h1 : IntKind.i64.min = -9223372036854775808 := by decide
  have h2 : IntKind.i64.max = 9223372036854775807 := by decide
  simp [Lit.wf, R64, h1, h2]
theorem o_int {t : TypeId} (ht : Tryz.prog.underlying t = some (.int .i64)) : Opens Tryz.prog enc w t OI :=
  (opens_int ht).mono (fun a ⟨n, h, e⟩ => ⟨n, wf64.1 h, e⟩) fun a ⟨n, h, e⟩ => ⟨n, wf64.2 h, e⟩
def OSL (a : AV) : Prop := ∃ l : List Int, l.length ≤ 9223372036854775807 ∧ (∀ x ∈ l, R64 x) ∧ a = SL l
theorem o_ints : Opens Tryz.prog enc w 24 OSL :=
  (opens_slice (T := Int) (q := R64) (f := I) (e := 3) (sz := 1) (by kernel_rfl) (by kernel_rfl) (by decide) ((o_int (by kernel_rfl)).mono (fun a ⟨n, h, e⟩ => ⟨n, h, e⟩) fun a ⟨n, h, e⟩ => ⟨n, h, e⟩)).mono
    (fun a ⟨l, h, h1, e⟩ => ⟨l, h, h1, e⟩) fun a ⟨l, h, h1, e⟩ => ⟨l, h, h1, e⟩
def OT (a : AV) : Prop := ∃ x y z : Int, R64 x ∧ R64 y ∧ R64 z ∧ a = .agg [I x, I y, I z]
theorem o_three : Opens Tryz.prog enc w 67 OT :=
  (opens_array (T := Int) (q := R64) (f := I) (e := 3) (n := 3) (sz := 1) (by kernel_rfl) (by kernel_rfl) (by kernel_rfl) (o_int (by kernel_rfl))).mono
    (fun a ⟨l, h, h1, e⟩ => by
      match l, h with
      | [x, y, z], _ => exact ⟨x, y, z, h1 x (by simp), h1 y (by simp), h1 z (by simp), e⟩)
    fun a ⟨x, y, z, h1, h2, h3, e⟩ => ⟨[x, y, z], rfl, by simp [h1, h2, h3], e⟩
def OT1 (a : AV) : Prop := ∃ q : T3, T3.ok q ∧ a = TP3 q
theorem o_three1 : Opens Tryz.prog enc w 67 OT1 :=
  o_three.mono (fun a ⟨x, y, z, h1, h2, h3, e⟩ => ⟨(x, y, z), ⟨h1, h2, h3⟩, e⟩) fun a ⟨q, h, e⟩ => ⟨q.1, q.2.1, q.2.2, h.1, h.2.1, h.2.2, e⟩
def OTS (a : AV) : Prop := ∃ l : List T3, l.length ≤ 9223372036854775807 ∧ (∀ x ∈ l, T3.ok x) ∧ a = TL3 l
theorem o_threes : Opens Tryz.prog enc w 22 OTS :=
  (opens_slice (T := T3) (q := T3.ok) (f := TP3) (e := 67) (sz := 3) (by kernel_rfl) (by kernel_rfl) (by decide) o_three1).mono
    (fun a ⟨l, h, h1, e⟩ => ⟨l, h, h1, e⟩) fun a ⟨l, h, h1, e⟩ => ⟨l, h, h1, e⟩
def OQ1 (a : AV) : Prop := ∃ x : Q4, Q4.ok x ∧ a = QP x
theorem o_four : Opens Tryz.prog enc w 89 OQ1 :=
  (opens_array (T := Int) (q := R64) (f := I) (e := 3) (n := 4) (sz := 1) (by kernel_rfl) (by kernel_rfl) (by kernel_rfl) (o_int (by kernel_rfl))).mono
    (fun a ⟨l, h, h1, e⟩ => by
      match l, h with
      | [x, y, z, u], _ => exact ⟨⟨x, y, z, u⟩, ⟨h1 x (by simp), h1 y (by simp), h1 z (by simp), h1 u (by simp)⟩, e⟩)
    fun a ⟨x, h, e⟩ => ⟨[x.a, x.b, x.c, x.d], rfl, by obtain ⟨h1, h2, h3, h4⟩ := h; simp [h1, h2, h3, h4], e⟩
def OQ (a : AV) : Prop := ∃ l : List Q4, l.length ≤ 9223372036854775807 ∧ (∀ x ∈ l, Q4.ok x) ∧ a = QL l
theorem o_fours : Opens Tryz.prog enc w 23 OQ :=
  (opens_slice (T := Q4) (q := Q4.ok) (f := QP) (e := 89) (sz := 4) (by kernel_rfl) (by kernel_rfl) (by decide) o_four).mono
    (fun a ⟨l, h, h1, e⟩ => ⟨l, h, h1, e⟩) fun a ⟨l, h, h1, e⟩ => ⟨l, h, h1, e⟩
end
end Go.Proofs.YtndhglacgiidbaaGreatDoor
set_option maxRecDepth 100000
namespace Go.Proofs.YtndhglacgiidbaaGreatDoor.Rt
open Go.Vai Go Go.Proofs Go.Proofs.YtndhglacgiidbaaGreatDoor
open Nat (reduceEqDiff reduceMul reduceAdd reduceDiv reduceLeDiff)
open Int (reduceToNat reduceNe reduceEq reduceLT reduceLE)
abbrev DSP (s : List Nat) : AV := .v (.string (dS s))
section
variable (p : Nat → Bool) (l : List (List Nat))
@[go_sem] theorem namesL_DSP : AV.namesL p (l.map DSP) = false := namesL_map p l DSP fun _ => rfl
@[go_sem] theorem flatL_DSP : AV.flatL (l.map DSP) = true := flatL_map l DSP fun _ => rfl
@[go_sem] theorem allOK_DSP : allOK 1 (l.map DSP) = true := allOK_map 1 l DSP fun _ => ⟨rfl, rfl⟩
end
def hsN (l : List Up) (n : Int) : Nat → List Int
  | 0 => []
  | i + 1 => hsN l n i ++ [heldV l n i]
theorem hsN_length (l : List Up) (n : Int) : ∀ i, (hsN l n i).length = i
  | 0 => rfl
  | i + 1 => by rw [hsN, List.length_append, hsN_length l n i]; rfl
theorem hsN_at (l : List Up) (n : Int) {v : Nat} : ∀ {i : Nat}, v < i → gd (hsN l n i) v = heldV l n v
  | 0, h => absurd h (Nat.not_lt_zero _)
  | i + 1, h => by
    rw [hsN]
    by_cases hv : v < i
    · rw [gd_append_left _ _ _ (by rw [hsN_length]; exact hv), hsN_at l n hv]
    · obtain rfl : v = i := by omega
      rw [gd_append_right _ _ _ (by rw [hsN_length]; omega), hsN_length, Nat.sub_self]; rfl
theorem hsN_holders {l : List Up} (h : validT l = true) (n : Int) {b : Nat} (hb : b ≤ l.length) (hb2 : b < 30) : holdersF (hsN l n (b + 1)) = true := by
  unfold holdersF
  rw [hsN_length, Bool.and_eq_true, inF_iff, List.all_eq_true]
  refine ⟨by omega, fun c hc => ?_⟩
  obtain ⟨i, hi, rfl⟩ := List.mem_iff_getElem.1 hc
  rw [← gd_getB _ i hi]
  rw [hsN_length] at hi
  rw [hsN_at l n hi, inF_iff]
  rcases heldV_in h n (v := i) (by omega) with e | ⟨e1, e2⟩ <;> omega
set_option maxHeartbeats 8000000 in
theorem dialled_ev (x : List YtndhglacgiidbaaGreatDoor.T3) (which n : Int) (y : List Q4) (t late : Int) (kn : List Int) (c : Int) (hx : x.length ≤ 9223372036854775807) (hxr : ∀ t ∈ x, t.ok) (hw : R64 which) (hnn : R64 n) (hy : y.length ≤ 9223372036854775807) (hyr : ∀ q ∈ y, q.ok) (ht0 : R64 t) (hlt : R64 late) (hk : kn.length ≤ 9223372036854775807) (hkr : ∀ a ∈ kn, R64 a) (hc : R64 c) :
    Ev Tryz.prog 3 [TL3 x, I which, I n, QL y, I t, I late, SL kn, I c] (B true) := by
  have c0 := made12_ev x hx hxr
  obtain ⟨pv, pd, p8⟩ := madeP_ok x
  generalize madeP x = p at *
  have hp : PlOK p := ⟨pv, pd⟩
  have cv := valid_ev' p hp
  refine ev_of Tryz.func3 rfl (by kernel_rfl) mo (Nat.le_of_ble_eq_true rfl) ?_
  simp -implicitDefEqProofs (disch := omega) only [go_sem, Tryz.ntmps3]
  refine callC_at c0 ?_
  simp -implicitDefEqProofs (disch := omega) only [go_sem]
  refine branch_mk (fun h0 => ?_) (fun h0 => ?_)
  · simp -implicitDefEqProofs (disch := omega) only [go_sem]
    refine callC_at cv ?_
    simp -implicitDefEqProofs (disch := omega) only [go_sem, Tryz.results3]
  clear c0 cv
  have hpl : 0 < p.length := by omega
  have c1 := pickT_ev which p.length hw (by omega)
  have p1 := YtndhglacgiidbaaGreatDoor.pickF_in (c := which) (n := (p.length : Int)) (by omega)
  obtain ⟨k, hk1⟩ : ∃ k : Nat, YtndhglacgiidbaaGreatDoor.pickF which p.length = k := ⟨(YtndhglacgiidbaaGreatDoor.pickF which p.length).toNat, by omega⟩
  rw [hk1] at c1 p1
  have hkl : k < p.length := by omega
  have c2 := range_ev p hp k hkl 1 (.inl rfl)
  have c3 := range_ev p hp k hkl 3 (.inr rfl)
  rw [if_pos rfl] at c2
  rw [if_neg (by decide)] at c3
  obtain ⟨l1, l2, l3, l4⟩ := hp.len hkl
  have hfr := frC_le (digP_at hp.d hkl).2 (by omega)
  have hforms := fun r hr => forms p hp k hkl r hr
  have hpp : 0 < 10 ^ ((gd p k).k - (gd p k).o.length) := Nat.pow_pos (by decide)
  have hple : 10 ^ ((gd p k).k - (gd p k).o.length) ≤ 10 ^ (8 - (gd p k).n.length) := pow_le (by omega)
  generalize frC (gd p k) = F at *
  generalize 10 ^ ((gd p k).k - (gd p k).o.length) = z1 at *
  generalize 10 ^ (8 - (gd p k).n.length) = z2 at *
  have c4 := pickT_ev n ((F : Int) + z1 - F) hnn (by omega)
  have p4 := YtndhglacgiidbaaGreatDoor.pickF_in (c := n) (n := (F : Int) + z1 - F) (by omega)
  obtain ⟨r, hr⟩ : ∃ r : Nat, YtndhglacgiidbaaGreatDoor.pickF n ((F : Int) + z1 - F) = r := ⟨(YtndhglacgiidbaaGreatDoor.pickF n ((F : Int) + z1 - F)).toNat, by omega⟩
  rw [hr] at c4 p4
  obtain ⟨s1, s2, hne, w1, w2, rd1, rd2, hsame⟩ := hforms r (by omega)
  obtain ⟨N, hN⟩ : ∃ N : Nat, F + r = N := ⟨_, rfl⟩
  rw [hN] at w1 w2 rd1 rd2
  have hNi : (F : Int) + (r : Int) = (N : Int) := by omega
  have hbe : ((dS s1).toList == (dS s2).toList) = false := by rw [dS_beq rd1.1 rd2.1]; exact decide_eq_false hne
  clear hforms
  simp -implicitDefEqProofs (disch := omega) only [go_sem]
  refine callC_at c1 ?_
  simp -implicitDefEqProofs (disch := omega) only [go_sem]
  refine callC_at c2 ?_
  simp -implicitDefEqProofs (disch := omega) only [go_sem]
  refine callC_at c3 ?_
  simp -implicitDefEqProofs (disch := omega) only [go_sem]
  refine branch_r (by omega) ?_
  simp -implicitDefEqProofs (disch := omega) only [go_sem]
  refine callC_at c4 ?_
  simp -implicitDefEqProofs (disch := omega) only [go_sem, hNi]
  refine callC_at w1 ?_
  simp -implicitDefEqProofs (disch := omega) only [go_sem, hNi]
  refine callC_at w2 ?_
  simp -implicitDefEqProofs (disch := omega) only [go_sem, hNi, hbe]
  refine callC_at hsame ?_
  simp -implicitDefEqProofs (disch := omega) only [go_sem, hNi, hbe]
  clear c1 c2 c3 c4 w1 w2 hsame hbe
  have hss : ∃ ss : List (List Nat), ss = [s1, s2] ∧ ss.length = 2 ∧ (∀ s ∈ ss, RdOK p N k s) ∧ [DSP s1, DSP s2] = ss.map DSP := ⟨_, rfl, rfl, fun s hs => by
    rcases List.mem_cons.1 hs with rfl | hs
    · exact rd1
    · rw [List.mem_singleton.1 hs]; exact rd2, rfl⟩
  obtain ⟨ss, hss0, hsl, hrd, hsm⟩ := hss
  have z1s := dS_size s1
  have z2s := dS_size s2
  obtain ⟨FF, hFF⟩ : ∃ FF : Int, (F : Int) = FF := ⟨_, rfl⟩
  obtain ⟨TT, hTT⟩ : ∃ TT : Int, FF + (z2 : Int) = TT := ⟨_, rfl⟩
  have hrng : 0 ≤ FF ∧ FF < TT ∧ TT ≤ 100000000 := by omega
  have hNn : (N : Int) < 100000000 := by omega
  clear hss0 rd1 rd2 hne
  refine loopC_mk (fun m E σ => ∃ i : Nat, i + m = 2 ∧ E 3 = QL y ∧ E 4 = I t ∧ E 5 = I late ∧ E 6 = SL kn ∧ E 7 = I c ∧ E 17 = CDS p ∧ E 18 = I k ∧ E 21 = .ptr 8388944 2 0 0 ∧ E 23 = I N ∧ E 24 = DSP s1 ∧ E 26 = DSP s2 ∧ σ 8388944 = some ⟨30, 2, [.agg [I FF, I TT]]⟩ ∧ E 138 = .own 8390816 1 0 2 ∧ E 139 = I 2 ∧ E 140 = I i ∧ σ 8390816 = some ⟨9, 1, ss.map DSP⟩) 2 ⟨0, by omega, ?_⟩ ?_
  · rw [← hsm]
    simp -implicitDefEqProofs (disch := omega) only [go_sem, hFF, hTT]
    try ((repeat' apply And.intro) <;> rfl)
  clear hpp hple hfr p4 hr hN hNi hFF hTT p1 hk1 l1 l2 l3 l4
  rintro m E σ ⟨i, hi, e3, e4, e5, e6, e7, e17, e18, e21, e23, e24, e26, m21, e138, e139, e140, m138⟩
  simp -implicitDefEqProofs (disch := omega) only [go_sem, e3, e4, e5, e6, e7, e17, e18, e21, e23, e24, e26, m21, e138, e139, e140, m138]
  refine branch_mk (fun g0 => ?_) (fun g0 => ?_)
  · have hil : i < ss.length := by omega
    obtain ⟨sd, sl8, sl1, _, hpart⟩ := hrd _ (gd_mem ss i hil)
    have hsz := dS_size (gd ss i)
    have hex : ∀ v, (dS (gd ss i)).extract 0 v = dS ((gd ss i).take v) := fun v => by rw [dS_extract, List.drop_zero, Nat.sub_zero]
    simp -implicitDefEqProofs (disch := omega) only [go_sem, e3, e4, e5, e6, e7, e17, e18, e21, e23, e24, e26, m21, e138, e139, e140, m138]
    refine loopC_mk (fun m2 E σ => ∃ v : Nat, v + m2 = (gd ss i).length ∧ E 3 = QL y ∧ E 4 = I t ∧ E 5 = I late ∧ E 6 = SL kn ∧ E 7 = I c ∧ E 17 = CDS p ∧ E 18 = I k ∧ E 21 = .ptr 8388944 2 0 0 ∧ E 23 = I N ∧ E 24 = DSP s1 ∧ E 26 = DSP s2 ∧ σ 8388944 = some ⟨30, 2, [.agg [I FF, I TT]]⟩ ∧ E 138 = .own 8390816 1 0 2 ∧ E 139 = I 2 ∧ E 140 = I i ∧ σ 8390816 = some ⟨9, 1, ss.map DSP⟩ ∧ E 29 = DSP (gd ss i) ∧ E 30 = I v) (gd ss i).length ⟨0, by omega, ?_⟩ ?_
    · simp -implicitDefEqProofs (disch := omega) only [go_sem, e3, e4, e5, e6, e7, e17, e18, e21, e23, e24, e26, m21, e138, e139, e140, m138]
      try ((repeat' apply And.intro) <;> rfl)
    clear e3 e4 e5 e6 e7 e17 e18 e21 e23 e24 e26 m21 e138 e139 e140 m138 E σ
    rintro m2 E σ ⟨v, hv, e3, e4, e5, e6, e7, e17, e18, e21, e23, e24, e26, m21, e138, e139, e140, m138, e29, e30⟩
    simp -implicitDefEqProofs (disch := omega) only [go_sem, e3, e4, e5, e6, e7, e17, e18, e21, e23, e24, e26, m21, e138, e139, e140, m138, e29, e30, hsz]
    refine branch_mk (fun g1 => ?_) (fun g1 => ?_)
    · have cr := hpart v (by omega)
      have hexv := hex v
      simp -implicitDefEqProofs (disch := omega) only [go_sem, e3, e4, e5, e6, e7, e17, e18, e21, e23, e24, e26, m21, e138, e139, e140, m138, e29, e30, hsz, hexv]
      refine callC_at cr ?_
      simp -implicitDefEqProofs (disch := omega) only [go_sem, e3, e4, e5, e6, e7, e17, e18, e21, e23, e24, e26, m21, e138, e139, e140, m138, e29, e30, hsz, hexv]
      refine againQ_mk ((gd ss i).length - (v + 1)) (by omega) ⟨v + 1, by omega, ?_⟩
      simp -implicitDefEqProofs (disch := omega) only [go_sem, e3, e4, e5, e6, e7, e17, e18, e21, e23, e24, e26, m21, e138, e139, e140, m138, e29, e30, hsz, hexv]
      try ((repeat' apply And.intro) <;> rfl)
    · simp -implicitDefEqProofs (disch := omega) only [go_sem, e3, e4, e5, e6, e7, e17, e18, e21, e23, e24, e26, m21, e138, e139, e140, m138]
      refine againQ_mk (2 - (i + 1)) (by omega) ⟨i + 1, by omega, ?_⟩
      simp -implicitDefEqProofs (disch := omega) only [go_sem, e3, e4, e5, e6, e7, e17, e18, e21, e23, e24, e26, m21, e138, e139, e140, m138]
      try ((repeat' apply And.intro) <;> rfl)
  clear e138 e139 e140 m138
  have cu := updates_ev FF TT hrng y hyr hy
  have ht := updF_valid FF TT hrng y
  have h12 := updF_len FF TT y
  generalize updF FF TT y = l at *
  have cp1 := pickT_ev t 60 ht0 (by omega)
  have hp1 := YtndhglacgiidbaaGreatDoor.pickF_in (c := t) (n := 60) (by omega)
  generalize YtndhglacgiidbaaGreatDoor.pickF t 60 = T0 at *
  have cp2 := pickT_ev late 20 hlt (by omega)
  have hp2 := YtndhglacgiidbaaGreatDoor.pickF_in (c := late) (n := 20) (by omega)
  generalize YtndhglacgiidbaaGreatDoor.pickF late 20 = G at *
  have ck1 := known_at ht (t := T0) (lag := G) (by omega) (by omega)
  have m1 : atF l (T0 - G) ≤ atF l T0 := atF_mono l (by omega)
  have m3 := atF_le l T0
  generalize atF l (T0 - G) = a at *
  generalize atF l T0 = b at *
  have cp3 := pickT_ev c 8 hc (by omega)
  have hd := YtndhglacgiidbaaGreatDoor.pickF_in (c := c) (n := 8) (by omega)
  generalize YtndhglacgiidbaaGreatDoor.pickF c 8 = d at *
  simp -implicitDefEqProofs (disch := omega) only [go_sem, e3, e4, e5, e6, e7, e17, e18, e21, e23, e24, e26, m21]
  refine callC_at cu ?_
  simp -implicitDefEqProofs (disch := omega) only [go_sem, e3, e4, e5, e6, e7, e17, e18, e21, e23, e24, e26, m21]
  refine callC_at cp1 ?_
  simp -implicitDefEqProofs (disch := omega) only [go_sem, e3, e4, e5, e6, e7, e17, e18, e21, e23, e24, e26, m21]
  refine callC_at cp2 ?_
  simp -implicitDefEqProofs (disch := omega) only [go_sem, e3, e4, e5, e6, e7, e17, e18, e21, e23, e24, e26, m21]
  refine callC_at ck1 ?_
  simp -implicitDefEqProofs (disch := omega) only [go_sem, e3, e4, e5, e6, e7, e17, e18, e21, e23, e24, e26, m21]
  refine branch_r (by omega) ?_
  simp -implicitDefEqProofs (disch := omega) only [go_sem, e3, e4, e5, e6, e7, e17, e18, e21, e23, e24, e26, m21]
  refine branch_r (by omega) ?_
  simp -implicitDefEqProofs (disch := omega) only [go_sem, e3, e4, e5, e6, e7, e17, e18, e21, e23, e24, e26, m21]
  refine branch_mk (fun h10 => ?_) (fun h10 => ?_)
  · simp -implicitDefEqProofs (disch := omega) only [go_sem, Tryz.results3]
  simp -implicitDefEqProofs (disch := omega) only [go_sem, e3, e4, e5, e6, e7, e17, e18, e21, e23, e24, e26, m21]
  refine callC_at cp3 ?_
  simp -implicitDefEqProofs (disch := omega) only [go_sem, e3, e4, e5, e6, e7, e17, e18, e21, e23, e24, e26, m21]
  clear cu cp1 cp2 ck1 cp3
  have hin : inN (N : Int) := ⟨by omega, by omega⟩
  have hh := hsN_holders ht (N : Int) (b := b) (by omega) (by omega)
  have hhl := hsN_length l (N : Int) (b + 1)
  have hat := fun v (hv : v < b + 1) => hsN_at l (N : Int) hv
  have hval := known_valid hh ((b : Int) - a) (by omega) kn
  have ckn := known_ev (hsN l N (b + 1)) ((b : Int) - a) kn (by omega) (by omega) (by omega) (by omega) hk hkr
  have hK8 := knownF_length (hsN l N (b + 1)) ((b : Int) - a) kn
  have hcp := path_ev (hsN l N (b + 1)) (knownF (hsN l N (b + 1)) ((b : Int) - a) kn) ((b : Int) - a) d (by omega) (by rw [knownF_length]; omega) ⟨by omega, by omega⟩
  have hbl := (betF_mem ht (n := (N : Int)) (a := a) (b := b) m3)
  have cb := between_at ht (a := a) (b := b) m1 m3 hin
  have hheld := fun v (hv : v ≤ l.length) => held_at ht hv hin
  have hmap := fun v (hv : v ≤ l.length) => map_at ht hv
  have hfind := fun v (hv : v ≤ l.length) => find_ev (mapV l v) N (map_ok ht hv)
  have hvh : ∀ v, v ≤ l.length → holdB (mapV l v) N = heldV l N v := fun v hv => (mapV_spec ht hv).2 N
  have hsame := fun P : List (Int × Int) => fun (hP : P.length ≤ 1000) => same_ev P P (by omega) (by omega)
  have hhas := fun (w : Int) (hw : w ∈ betF l N a b) (hb9 : (betF l N a b).length ≤ 1000) => has_in (betF l N a b) w hb9 hw
  have hw9 : (betF l (N : Int) a b).length ≤ 9 := by
    unfold betF; exact Nat.le_trans (List.length_filter_le _ _) (by simp [crs])
  obtain ⟨P, hP1⟩ : ∃ P, (pathF (hsN l N (b + 1)) (knownF (hsN l N (b + 1)) ((b : Int) - a) kn) d).1 = P := ⟨_, rfl⟩
  obtain ⟨e, hP2⟩ : ∃ e, (pathF (hsN l N (b + 1)) (knownF (hsN l N (b + 1)) ((b : Int) - a) kn) d).2 = e := ⟨_, rfl⟩
  refine loopC_mk (fun m E σ => ∃ i : Nat, i + m = 2 ∧ E 7 = I c ∧ E 6 = SL kn ∧ E 17 = CDS p ∧ E 18 = I k ∧ E 23 = I N ∧ E 33 = UPS l ∧ E 35 = I a ∧ E 36 = I b ∧ E 38 = I d ∧ E 201 = .own 8391824 1 0 2 ∧ E 202 = I 2 ∧ E 203 = I i ∧ σ 8391824 = some ⟨9, 1, ss.map DSP⟩ ∧ (i = 1 → E 39 = HL P ∧ E 40 = I e)) 2 ⟨0, by omega, ?_⟩ ?_
  · rw [← hsm]
    simp -implicitDefEqProofs (disch := omega) only [go_sem, e3, e4, e5, e6, e7, e17, e18, e21, e23, e24, e26, m21]
    exact ⟨rfl, rfl, fun h => h.elim⟩
  clear e3 e4 e5 e6 e7 e17 e18 e21 e23 e24 e26 m21 E σ
  rintro m E σ ⟨i, hi, e7, e6, e17, e18, e23, e33, e35, e36, e38, e201, e202, e203, m201, hfi⟩
  simp -implicitDefEqProofs (disch := omega) only [go_sem, e7, e6, e17, e18, e23, e33, e35, e36, e38, e201, e202, e203, m201]
  refine branch_mk (fun g0 => ?_) (fun g0 => ?_)
  rotate_left
  · simp -implicitDefEqProofs (disch := omega) only [go_sem, Tryz.results3]
  have hil : i < ss.length := by omega
  obtain ⟨sd, sl8, sl1, hfull, _⟩ := hrd _ (gd_mem ss i hil)
  have hsz := dS_size (gd ss i)
  generalize hgs : gd ss i = s at *
  simp -implicitDefEqProofs (disch := omega) only [go_sem, e7, e6, e17, e18, e23, e33, e35, e36, e38, e201, e202, e203, m201, hgs, hsz]
  refine callC_at hfull ?_
  simp -implicitDefEqProofs (disch := omega) only [go_sem, e7, e6, e17, e18, e23, e33, e35, e36, e38, e201, e202, e203, m201, hgs, hsz, bne_self_eq_false]
  refine loopC_mk (fun m2 E σ => ∃ v : Nat, v + m2 = b + 1 ∧ E 7 = I c ∧ E 6 = SL kn ∧ E 17 = CDS p ∧ E 18 = I k ∧ E 23 = I N ∧ E 33 = UPS l ∧ E 35 = I a ∧ E 36 = I b ∧ E 38 = I d ∧ E 201 = .own 8391824 1 0 2 ∧ E 202 = I 2 ∧ E 203 = I i ∧ σ 8391824 = some ⟨9, 1, ss.map DSP⟩ ∧ (i = 1 → E 39 = HL P ∧ E 40 = I e) ∧ E 41 = I i ∧ E 43 = .ptr 8389296 4 0 0 ∧ σ 8389296 = some ⟨39, 4, [DIA 2 N k s.length]⟩ ∧ E 45 = .own 8389328 1 0 v ∧ σ 8389328 = some ⟨3, 1, (hsN l N v).map I⟩ ∧ E 46 = I v) (b + 1) ⟨0, by omega, ?_⟩ ?_
  · simp -implicitDefEqProofs (disch := omega) only [go_sem, e7, e6, e17, e18, e23, e33, e35, e36, e38, e201, e202, e203, m201, hgs, hsz]
    refine ⟨fun h1 => ?_, ?_⟩
    · obtain ⟨f1, f2⟩ := hfi h1
      simp -implicitDefEqProofs (disch := omega) only [go_sem, f1, f2]
    · try ((repeat' apply And.intro) <;> rfl)
  clear e7 e6 e17 e18 e23 e33 e35 e36 e38 e201 e202 e203 m201 hfi E σ
  rintro m2 E σ ⟨v, hv, e7, e6, e17, e18, e23, e33, e35, e36, e38, e201, e202, e203, m201, hfi, e41, e43, m43, e45, m45, e46⟩
  simp -implicitDefEqProofs (disch := omega) only [go_sem, e7, e6, e17, e18, e23, e33, e35, e36, e38, e201, e202, e203, m201, e41, e43, m43, e45, m45, e46]
  refine branch_mk (fun g1 => ?_) (fun g1 => ?_)
  · have cH := hheld v (by omega)
    have cM := hmap v (by omega)
    have cF := hfind v (by omega)
    rw [hvh v (by omega)] at cF
    have hli := hsN_length l N v
    have hs1 : hsN l N v ++ [heldV l N v] = hsN l N (v + 1) := rfl
    obtain ⟨g2, hg2⟩ : ∃ g, hsN l N (v + 1) = g := ⟨_, rfl⟩
    rw [hg2] at hs1
    generalize heldV l N v = w at *
    generalize hsN l N v = g3 at *
    generalize mapV l v = mv at *
    simp -implicitDefEqProofs (disch := omega) only [go_sem, e7, e6, e17, e18, e23, e33, e35, e36, e38, e201, e202, e203, m201, e41, e43, m43, e45, m45, e46, hli]
    refine callC_at cH ?_
    simp -implicitDefEqProofs (disch := omega) only [go_sem, e7, e6, e17, e18, e23, e33, e35, e36, e38, e201, e202, e203, m201, e41, e43, m43, e45, m45, e46, hli]
    refine callC_at cM ?_
    simp -implicitDefEqProofs (disch := omega) only [go_sem, e7, e6, e17, e18, e23, e33, e35, e36, e38, e201, e202, e203, m201, e41, e43, m43, e45, m45, e46, hli]
    by_cases hw1 : w = -1
    · subst hw1
      rw [if_pos rfl, decide_eq_false (fun h => h rfl)] at cF
      refine callC_at cF ?_
      simp -implicitDefEqProofs (disch := omega) only [go_sem, e7, e6, e17, e18, e23, e33, e35, e36, e38, e201, e202, e203, m201, e41, e43, m43, e45, m45, e46, hli, bne_self_eq_false]
      refine againQ_mk (b + 1 - (v + 1)) (by omega) ⟨v + 1, by omega, ?_⟩
      rw [hg2]
      simp -implicitDefEqProofs (disch := omega) only [go_sem, e7, e6, e17, e18, e23, e33, e35, e36, e38, e201, e202, e203, m201, e41, e43, m43, e45, m45, e46, hli, hs1]
      refine ⟨fun h1 => ?_, ?_⟩
      · obtain ⟨f1, f2⟩ := hfi h1
        simp -implicitDefEqProofs (disch := omega) only [go_sem, f1, f2]
      · try ((repeat' apply And.intro) <;> rfl)
    · rw [if_neg hw1, decide_eq_true hw1] at cF
      have hwb : (w != -1) = true := by simp [hw1]
      have hww : (w != w) = false := by simp
      refine callC_at cF ?_
      simp -implicitDefEqProofs (disch := omega) only [go_sem, e7, e6, e17, e18, e23, e33, e35, e36, e38, e201, e202, e203, m201, e41, e43, m43, e45, m45, e46, hli, hwb, hww]
      refine againQ_mk (b + 1 - (v + 1)) (by omega) ⟨v + 1, by omega, ?_⟩
      rw [hg2]
      simp -implicitDefEqProofs (disch := omega) only [go_sem, e7, e6, e17, e18, e23, e33, e35, e36, e38, e201, e202, e203, m201, e41, e43, m43, e45, m45, e46, hli, hs1]
      refine ⟨fun h1 => ?_, ?_⟩
      · obtain ⟨f1, f2⟩ := hfi h1
        simp -implicitDefEqProofs (disch := omega) only [go_sem, f1, f2]
      · try ((repeat' apply And.intro) <;> rfl)
  obtain rfl : v = b + 1 := by omega
  simp -implicitDefEqProofs (disch := omega) only [go_sem, e7, e6, e17, e18, e23, e33, e35, e36, e38, e201, e202, e203, m201, e41, e43, m43, e45, m45, e46, hhl]
  refine callC_at ckn ?_ (h1 := .inr (by simp only [go_sem, AV.flat, AV.flatL, Bool.and_self]))
  clear hheld hmap hfind hvh hfull hrd ckn
  generalize hKK : knownF (hsN l N (b + 1)) ((b : Int) - a) kn = K at *
  generalize hHH : hsN l N (b + 1) = h at *
  have hle : (b + 1 ≤ h.length) = True := eq_true (by omega)
  simp -implicitDefEqProofs (disch := omega) only [go_sem, e7, e6, e17, e18, e23, e33, e35, e36, e38, e201, e202, e203, m201, e41, e43, m43, e45, m45, e46, hhl, hle, hK8]
  by_cases hcan : canF h K ((b : Int) - a) d = true
  rotate_left
  · rw [pathR, if_neg hcan] at hcp
    have hkd : gd K d.toNat = -1 := by
      rw [can_iff hval hd, decide_eq_true_eq] at hcan
      have := valid_known' hval d.toNat (by omega)
      omega
    have hlt8 : d.toNat < 8 := by omega
    refine callC_at hcp ?_
    simp -implicitDefEqProofs (disch := omega) only [go_sem, hkd, hlt8, e7, e6, e17, e18, e23, e33, e35, e36, e38, e201, e202, e203, m201, e41, e43, m43, e45, m45, e46, hhl, hle, hK8, beq_self_eq_true, Tryz.results3]
  rw [pathR, if_pos hcan] at hcp
  have hP := path24 hcan
  rw [hP1, hP2] at hcp hP
  replace hcp := ev_sl hcp (.tup [HL P, I e, I 0])
  have hpos := hP.ok.pos
  have hfin := hP.ok.fin
  have hl := hP.here _ (gd_mem P (P.length - 1) (by omega))
  have hk0 := hP.ok.last 0 (by omega)
  have hk1 := hP.ok.knows 0 (by omega)
  have hls := hP.least
  have hshort := hP.short
  have hz : (gd P 0).1 = d := by rw [hP.ok.zero]
  rw [hz] at hk1
  have e0 : ((P.length : Int) - 1).toNat = P.length - 1 := by omega
  refine callC_sem rfl ?_
  refine freeze_op [8389328, 8393328] ?_
  have tk1 : h.take (b + 1) = h := List.take_of_length_le (by omega)
  have tk2 : K.take 8 = K := List.take_of_length_le (by omega)
  simp -implicitDefEqProofs (disch := omega) only [go_sem, e7, e6, e17, e18, e23, e33, e35, e36, e38, e201, e202, e203, m201, e41, e43, m43, e45, m45, e46, hhl, hle, hK8, e0, tk1, tk2]
  refine callC_at hcp ?_
  simp -implicitDefEqProofs (disch := omega) only [go_sem, e7, e6, e17, e18, e23, e33, e35, e36, e38, e201, e202, e203, m201, e41, e43, m43, e45, m45, e46, hhl, hle, hK8, e0, tk1, tk2]
  refine branch_r (by omega) ?_
  simp -implicitDefEqProofs (disch := omega) only [go_sem, e7, e6, e17, e18, e23, e33, e35, e36, e38, e201, e202, e203, m201, e41, e43, m43, e45, m45, e46, hhl, hle, hK8, e0]
  have hpp : 0 ≤ (gd P (P.length - 1)).2 := hl.2.2.2.1
  have hbv : ∃ v, a ≤ v ∧ v ≤ b ∧ heldV l N v = gd h (gd P (P.length - 1)).2.toNat := ⟨(gd P (P.length - 1)).2.toNat, by omega, by omega, (hat _ (by omega)).symm⟩
  have hmem := (hbl (gd h (gd P (P.length - 1)).2.toNat)).2 hbv
  clear hbv
  have cS := hsame P (by omega)
  rw [decide_eq_true rfl] at cS
  have cI := hhas _ hmem (by omega)
  have q1 : a ≤ (gd P (P.length - 1)).2 := by omega
  have q2 : (gd P (P.length - 1)).2 ≤ b := by omega
  have hzP : P.length - 1 < P.length := by omega
  generalize hgq : gd P (P.length - 1) = q at *
  obtain ⟨z1, z2⟩ := q
  simp only at *
  have hzl : z2.toNat < b + 1 := by omega
  have hi01 : i = 0 ∨ i = 1 := by omega
  generalize betF l N a b = who at *
  refine branch_mk (fun gz => ?_) (fun gz => ?_)
  · have f1 : True := trivial
    have f2 : True := trivial
    have hnx : i + 1 = 1 → True := fun _ => trivial
    simp -implicitDefEqProofs (disch := omega) only [go_sem, e7, e6, e17, e18, e23, e33, e35, e36, e38, e201, e202, e203, m201, e41, e43, m43, e45, m45, e46, hhl, hle, hK8, e0, hgq, f1, f2]
    refine callC_at cb ?_
    simp -implicitDefEqProofs (disch := omega) only [go_sem, e7, e6, e17, e18, e23, e33, e35, e36, e38, e201, e202, e203, m201, e41, e43, m43, e45, m45, e46, hhl, hle, hK8, e0, hgq, f1, f2]
    refine callC_at cS ?_
    simp -implicitDefEqProofs (disch := omega) only [go_sem, e7, e6, e17, e18, e23, e33, e35, e36, e38, e201, e202, e203, m201, e41, e43, m43, e45, m45, e46, hhl, hle, hK8, e0, hgq, f1, f2, bne_self_eq_false]
    refine branch_r (by omega) ?_
    simp -implicitDefEqProofs (disch := omega) only [go_sem, e7, e6, e17, e18, e23, e33, e35, e36, e38, e201, e202, e203, m201, e41, e43, m43, e45, m45, e46, hhl, hle, hK8, e0, hgq, f1, f2]
    refine branch_r (by omega) ?_
    simp -implicitDefEqProofs (disch := omega) only [go_sem, e7, e6, e17, e18, e23, e33, e35, e36, e38, e201, e202, e203, m201, e41, e43, m43, e45, m45, e46, hhl, hle, hK8, e0, hgq, f1, f2, hzl, hhl]
    refine callC_at cI ?_
    simp -implicitDefEqProofs (disch := omega) only [go_sem, e7, e6, e17, e18, e23, e33, e35, e36, e38, e201, e202, e203, m201, e41, e43, m43, e45, m45, e46, hhl, hle, hK8, e0, hgq, f1, f2, hzl, hhl]
    refine branch_mk (fun he => ?_) (fun he => ?_)
    · have hz1 : gd h z2.toNat = z1 := by
        rcases hfin with ⟨r1, r2⟩ | ⟨r1, r2⟩ | ⟨r1, r2, r3⟩ <;> first | exact r2 | omega
      simp -implicitDefEqProofs (disch := omega) only [go_sem, e7, e6, e17, e18, e23, e33, e35, e36, e38, e201, e202, e203, m201, e41, e43, m43, e45, m45, e46, hhl, hle, hK8, e0, hgq, f1, f2, hzl, hhl, hz1, bne_self_eq_false]
      refine branch_r (by omega) ?_
      simp -implicitDefEqProofs (disch := omega) only [go_sem, e7, e6, e17, e18, e23, e33, e35, e36, e38, e201, e202, e203, m201, e41, e43, m43, e45, m45, e46, hhl, hle, hK8, e0, hgq, f1, f2, hzl, hhl, hz1]
      refine againQ_mk (2 - (i + 1)) (by omega) ⟨i + 1, by omega, ?_⟩
      simp -implicitDefEqProofs (disch := omega) only [go_sem, e7, e6, e17, e18, e23, e33, e35, e36, e38, e201, e202, e203, m201, e41, e43, m43, e45, m45, e46, hhl, hle, hK8, e0, hgq, f1, f2, hzl, hhl]
      first | rfl | exact ⟨rfl, fun _ => trivial⟩ | exact ⟨rfl, fun _ => rfl⟩
    simp -implicitDefEqProofs (disch := omega) only [go_sem, e7, e6, e17, e18, e23, e33, e35, e36, e38, e201, e202, e203, m201, e41, e43, m43, e45, m45, e46, hhl, hle, hK8, e0, hgq, f1, f2, hzl, hhl]
    refine branch_mk (fun he2 => ?_) (fun he2 => ?_)
    · have hz1 : gd h z2.toNat = -1 := by
        rcases hfin with ⟨r1, r2⟩ | ⟨r1, r2⟩ | ⟨r1, r2, r3⟩ <;> first | exact r2 | omega
      simp -implicitDefEqProofs (disch := omega) only [go_sem, e7, e6, e17, e18, e23, e33, e35, e36, e38, e201, e202, e203, m201, e41, e43, m43, e45, m45, e46, hhl, hle, hK8, e0, hgq, f1, f2, hzl, hhl, hz1, bne_self_eq_false]
      refine againQ_mk (2 - (i + 1)) (by omega) ⟨i + 1, by omega, ?_⟩
      simp -implicitDefEqProofs (disch := omega) only [go_sem, e7, e6, e17, e18, e23, e33, e35, e36, e38, e201, e202, e203, m201, e41, e43, m43, e45, m45, e46, hhl, hle, hK8, e0, hgq, f1, f2, hzl, hhl]
      first | rfl | exact ⟨rfl, fun _ => trivial⟩ | exact ⟨rfl, fun _ => rfl⟩
    · simp -implicitDefEqProofs (disch := omega) only [go_sem, e7, e6, e17, e18, e23, e33, e35, e36, e38, e201, e202, e203, m201, e41, e43, m43, e45, m45, e46, hhl, hle, hK8, e0, hgq, f1, f2, hzl, hhl]
      refine againQ_mk (2 - (i + 1)) (by omega) ⟨i + 1, by omega, ?_⟩
      simp -implicitDefEqProofs (disch := omega) only [go_sem, e7, e6, e17, e18, e23, e33, e35, e36, e38, e201, e202, e203, m201, e41, e43, m43, e45, m45, e46, hhl, hle, hK8, e0, hgq, f1, f2, hzl, hhl]
      first | rfl | exact ⟨rfl, fun _ => trivial⟩ | exact ⟨rfl, fun _ => rfl⟩
  · obtain ⟨f1, f2⟩ := hfi (by omega)
    simp -implicitDefEqProofs (disch := omega) only [go_sem, e7, e6, e17, e18, e23, e33, e35, e36, e38, e201, e202, e203, m201, e41, e43, m43, e45, m45, e46, hhl, hle, hK8, e0, hgq, f1, f2]
    refine callC_at cb ?_
    simp -implicitDefEqProofs (disch := omega) only [go_sem, e7, e6, e17, e18, e23, e33, e35, e36, e38, e201, e202, e203, m201, e41, e43, m43, e45, m45, e46, hhl, hle, hK8, e0, hgq, f1, f2]
    refine callC_at cS ?_
    simp -implicitDefEqProofs (disch := omega) only [go_sem, e7, e6, e17, e18, e23, e33, e35, e36, e38, e201, e202, e203, m201, e41, e43, m43, e45, m45, e46, hhl, hle, hK8, e0, hgq, f1, f2, bne_self_eq_false]
    refine branch_r (by omega) ?_
    simp -implicitDefEqProofs (disch := omega) only [go_sem, e7, e6, e17, e18, e23, e33, e35, e36, e38, e201, e202, e203, m201, e41, e43, m43, e45, m45, e46, hhl, hle, hK8, e0, hgq, f1, f2]
    refine branch_r (by omega) ?_
    simp -implicitDefEqProofs (disch := omega) only [go_sem, e7, e6, e17, e18, e23, e33, e35, e36, e38, e201, e202, e203, m201, e41, e43, m43, e45, m45, e46, hhl, hle, hK8, e0, hgq, f1, f2, hzl, hhl]
    refine callC_at cI ?_
    simp -implicitDefEqProofs (disch := omega) only [go_sem, e7, e6, e17, e18, e23, e33, e35, e36, e38, e201, e202, e203, m201, e41, e43, m43, e45, m45, e46, hhl, hle, hK8, e0, hgq, f1, f2, hzl, hhl]
    refine branch_mk (fun he => ?_) (fun he => ?_)
    · have hz1 : gd h z2.toNat = z1 := by
        rcases hfin with ⟨r1, r2⟩ | ⟨r1, r2⟩ | ⟨r1, r2, r3⟩ <;> first | exact r2 | omega
      simp -implicitDefEqProofs (disch := omega) only [go_sem, e7, e6, e17, e18, e23, e33, e35, e36, e38, e201, e202, e203, m201, e41, e43, m43, e45, m45, e46, hhl, hle, hK8, e0, hgq, f1, f2, hzl, hhl, hz1, bne_self_eq_false]
      refine branch_r (by omega) ?_
      simp -implicitDefEqProofs (disch := omega) only [go_sem, e7, e6, e17, e18, e23, e33, e35, e36, e38, e201, e202, e203, m201, e41, e43, m43, e45, m45, e46, hhl, hle, hK8, e0, hgq, f1, f2, hzl, hhl, hz1]
      refine againQ_mk (2 - (i + 1)) (by omega) ⟨i + 1, by omega, ?_⟩
      simp -implicitDefEqProofs (disch := omega) only [go_sem, e7, e6, e17, e18, e23, e33, e35, e36, e38, e201, e202, e203, m201, e41, e43, m43, e45, m45, e46, hhl, hle, hK8, e0, hgq, f1, f2, hzl, hhl]
      first | rfl | exact ⟨rfl, fun _ => trivial⟩ | exact ⟨rfl, fun _ => rfl⟩
    simp -implicitDefEqProofs (disch := omega) only [go_sem, e7, e6, e17, e18, e23, e33, e35, e36, e38, e201, e202, e203, m201, e41, e43, m43, e45, m45, e46, hhl, hle, hK8, e0, hgq, f1, f2, hzl, hhl]
    refine branch_mk (fun he2 => ?_) (fun he2 => ?_)
    · have hz1 : gd h z2.toNat = -1 := by
        rcases hfin with ⟨r1, r2⟩ | ⟨r1, r2⟩ | ⟨r1, r2, r3⟩ <;> first | exact r2 | omega
      simp -implicitDefEqProofs (disch := omega) only [go_sem, e7, e6, e17, e18, e23, e33, e35, e36, e38, e201, e202, e203, m201, e41, e43, m43, e45, m45, e46, hhl, hle, hK8, e0, hgq, f1, f2, hzl, hhl, hz1, bne_self_eq_false]
      refine againQ_mk (2 - (i + 1)) (by omega) ⟨i + 1, by omega, ?_⟩
      simp -implicitDefEqProofs (disch := omega) only [go_sem, e7, e6, e17, e18, e23, e33, e35, e36, e38, e201, e202, e203, m201, e41, e43, m43, e45, m45, e46, hhl, hle, hK8, e0, hgq, f1, f2, hzl, hhl]
      first | rfl | exact ⟨rfl, fun _ => trivial⟩ | exact ⟨rfl, fun _ => rfl⟩
    · simp -implicitDefEqProofs (disch := omega) only [go_sem, e7, e6, e17, e18, e23, e33, e35, e36, e38, e201, e202, e203, m201, e41, e43, m43, e45, m45, e46, hhl, hle, hK8, e0, hgq, f1, f2, hzl, hhl]
      refine againQ_mk (2 - (i + 1)) (by omega) ⟨i + 1, by omega, ?_⟩
      simp -implicitDefEqProofs (disch := omega) only [go_sem, e7, e6, e17, e18, e23, e33, e35, e36, e38, e201, e202, e203, m201, e41, e43, m43, e45, m45, e46, hhl, hle, hK8, e0, hgq, f1, f2, hzl, hhl]
      first | rfl | exact ⟨rfl, fun _ => trivial⟩ | exact ⟨rfl, fun _ => rfl⟩
end Go.Proofs.YtndhglacgiidbaaGreatDoor.Rt
set_option maxRecDepth 100000
namespace Go.Proofs.YtndhglacgiidbaaGreatDoor
open Go.Vai Go Go.Proofs
open Nat (reduceEqDiff reduceMul reduceAdd reduceDiv reduceLeDiff)
open Int (reduceToNat reduceNe reduceEq reduceLT reduceLE)
set_option maxHeartbeats 4000000 in
theorem topDialled_lifted (os : Os) (started : os.Started) (H : Type) (enc : TypeId × Value → H) :
    ReturnsInHanded {} Tryz.checked os 3 .any (fun w args => (Rows.topDialledSpec.pre enc Tryz.prog Tryz.f3 [] false w args ∧ laidMetH Tryz.prog laid3 w) ∧ sizedMet enc Tryz.prog Tryz.f3 (OpenSpec.ofChange Rows.topDialledSpec) false w args)
      (Rows.topDialledSpec.post enc Tryz.prog Tryz.f3 false true false false) :=
  liftedG (C := Tryz.checked) (tb := 4) (ps := [OTS, OI, OI, OQ, OI, OI, OSL, OI]) (X := fun w _ => laidMetH Tryz.prog laid3 w) (fun _ _ _ hh h => h.of_heap hh) own3 started (by kernel_rfl) Tryz.func3
    (ChangeSpec.witness_shaped (enc := enc) (C := Tryz.checked) (os := os) (X := fun w _ => laidMetH Tryz.prog laid3 w) false (World.laidAll Tryz.prog os laid3) #[.slice none 0 0, .int .i64 0, .int .i64 0, .slice none 0 0, .int .i64 0, .int .i64 0, .slice none 0 0, .int .i64 0] 8 (World.laidAll_os _ _ _) (World.shaped_of_ZipB (by kernel_rfl) (by kernel_rfl)) (by kernel_rfl) (by kernel_rfl) (by kernel_rfl) (by rw [MakeChecks.laidMetH_plain _ _ _ (by kernel_rfl)]; exact laidMet_laidAll _ (by kernel_rfl) (by kernel_rfl)))
    laidOut3 (by kernel_rfl) (by kernel_rfl) (by kernel_rfl) rfl (len_8 fun _ _ _ _ _ _ _ _ => rfl)
    (fun w => ⟨o_threes, o_int (by kernel_rfl), o_int (by kernel_rfl), o_fours, o_int (by kernel_rfl), o_int (by kernel_rfl), o_ints, o_int (by kernel_rfl), trivial⟩)
    (allP_8 fun a0 a1 a2 a3 a4 a5 a6 a7 h0 h1 h2 h3 h4 h5 h6 h7 => by
      obtain ⟨x0, hx0, hr0, rfl⟩ := h0
      obtain ⟨x1, hx1, rfl⟩ := h1
      obtain ⟨x2, hx2, rfl⟩ := h2
      obtain ⟨x3, hx3, hr3, rfl⟩ := h3
      obtain ⟨x4, hx4, rfl⟩ := h4
      obtain ⟨x5, hx5, rfl⟩ := h5
      obtain ⟨x6, hx6, hr6, rfl⟩ := h6
      obtain ⟨x7, hx7, rfl⟩ := h7
      exact Rt.dialled_ev x0 x1 x2 x3 x4 x5 x6 x7 hx0 hr0 hx1 hx2 hx3 hr3 hx4 hx5 hx6 hr6 hx7)
    (fun _ _ h => gok h)
theorem and2 {a b : Bool} (ha : a = true) (hb : b = true) : (a && b) = true := by rw [ha, hb]; rfl
set_option maxHeartbeats 16000000 in
theorem topDialled_closed : joinedFacts Tryz.checked.prog 3 Tryz.f3 Rows.topDialledSpec Rows.topDialledRow = true := by
  unfold joinedFacts
  with_reducible repeat' refine and2 ?_ ?_
  all_goals as_aux_lemma => kernel_rfl
theorem topDialled_row : Rows.TopDialledSaid :=
  OpenClaim.holds_of_wide 3 Tryz.f3 rfl rfl rfl rfl rfl rfl rfl ⟨rfl, rfl, rfl, rfl, rfl⟩ rfl rfl rfl rfl rfl (by kernel_rfl) Tryz.func3 topDialled_closed
    (of_decide_eq_true (by kernel_rfl)) (by unfold Func.isWrapper; first | (rw [if_pos (by decide +kernel)]; kernel_rfl) | (rw [if_neg (by decide +kernel)]; exact ⟨rfl, rfl⟩))
    (fun os started H enc _ => topDialled_lifted os started H enc)
theorem topDialled_holds : Rows.TopDialledCardSaid :=
  Claim7.holds_tied_plain_at .later [] [.data, .data, .data, .data, .sentinel, .sentinel, .pinned] true (true, "b3fc8c976cdf61439cc6cc311d04f0c039f2159e44d183da1da704034143103b") true
    topDialled_row (fun _ h => by cases h) (by kernel_rfl) (fun _ h => by cases h) topDialled_row_tie rfl ⟨rfl, rfl⟩ (by kernel_rfl) rfl
    (fun f fn hf hfn => by
      obtain rfl : f = 3 := Option.some.inj ((show Tryz.prog.funcNamed "dialtone/dialtonetop.TopDialled" = some 3 by kernel_rfl).symm.trans hf) |>.symm
      obtain rfl : fn = Tryz.f3 := (Option.some.inj (Tryz.func3.symm.trans hfn)).symm
      exact ⟨by kernel_rfl, fun j t ht => by
          rw [Tryz.params3] at ht
          rcases j with _ | j
          · obtain rfl : t = 22 := by simpa using ht.symm
            exact (show Tryz.prog.wantsStandIn 22 = false by kernel_rfl)
          rcases j with _ | j
          · obtain rfl : t = 3 := by simpa using ht.symm
            exact (show Tryz.prog.wantsStandIn 3 = false by kernel_rfl)
          rcases j with _ | j
          · obtain rfl : t = 3 := by simpa using ht.symm
            exact (show Tryz.prog.wantsStandIn 3 = false by kernel_rfl)
          rcases j with _ | j
          · obtain rfl : t = 23 := by simpa using ht.symm
            exact (show Tryz.prog.wantsStandIn 23 = false by kernel_rfl)
          rcases j with _ | j
          · obtain rfl : t = 3 := by simpa using ht.symm
            exact (show Tryz.prog.wantsStandIn 3 = false by kernel_rfl)
          rcases j with _ | j
          · obtain rfl : t = 3 := by simpa using ht.symm
            exact (show Tryz.prog.wantsStandIn 3 = false by kernel_rfl)
          rcases j with _ | j
          · obtain rfl : t = 24 := by simpa using ht.symm
            exact (show Tryz.prog.wantsStandIn 24 = false by kernel_rfl)
          rcases j with _ | j
          · obtain rfl : t = 3 := by simpa using ht.symm
            exact (show Tryz.prog.wantsStandIn 3 = false by kernel_rfl)
          simp at ht⟩)
    (by kernel_rfl)
#print axioms topDialled_holds
end Go.Proofs.YtndhglacgiidbaaGreatDoor

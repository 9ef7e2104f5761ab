/- A heap-free account of the walk, fifth part; facts about types -/
import Derived.Test.YthkihocapdfonaaGreatDoorKD
import Derived.Lib.UnsafeStr
import Derived.Laws.Externs
import Derived.DeepKeys
import Derived.Laws.IdiomRangeMap
import Derived.Test.YthkihocapdfonaaGreatDoorProg
set_option linter.unusedVariables false
set_option linter.unusedSimpArgs false
namespace Go.Vai
open Go.RowKit
section
variable {S : Sp} {dst : Option Nat} {ty : TypeId} {K : Env → Store → Prop} {E : Env} {σ : Store}
theorem semD_pure {op : Op} (r : AV) (hfit : (dst.all (decide <| · < S.N) && Op.low S.N op) = true) (hdf : ∀ c, op ≠ .defer c)
    (h : ∀ (C : Fx) (w : World) (ρ : Nat → Option Nat) (Im : Nat → Prop) (M : Str) (a : Act), Holds S C → Wit C E σ a w ρ Im M → (∀ u ∈ op.operands, Rep w ρ Im (ev E u) (a.eval u)) →
      ∃ y, (∀ pos after guard, (execOp a.eval ⟨dst, op, ty, pos, after, guard⟩).run S.P w = .ok (.value y) w) ∧ Rep w ρ Im r y) (hK : K (updO E dst r) σ) : semD S dst op ty K E σ := by
  intro pos after guard C H n a w Kc Q ⟨ρ, Im, M, hw⟩ hKc
  simp only [Bool.and_eq_true] at hfit
  obtain ⟨hdst, hlow⟩ := hfit
  have hdst' : ∀ d, dst = some d → d < C.N := fun d hd => by subst hd; rw [← H.N]; simpa using hdst
  have rep : ∀ u ∈ op.operands, Rep w ρ Im (ev E u) (a.eval u) := fun u hu => ev_rep hw.env (by rw [hw.size, ← H.N]; exact low_of hlow hu)
  obtain ⟨y, hrun, hr⟩ := h C w ρ Im M a H hw rep
  exact wpIn_value hdf (hrun pos after guard) (hKc _ _ _ _ hK ⟨ρ, Im, M, hw.put H.G hdst' hr⟩)
theorem loadG_mk {t : TypeId} {g : Nat} (cs : List Value) (hg : (g, cs) ∈ gtab) (r : AV) (hp : partOf S.P t (cs.map .v) 0 r) (hK : K (updO E dst r) σ)
    (hfit : (dst.all (decide <| · < S.N) && Op.low S.N (.load t (.global g))) = true := by kernel_rfl) : semD S dst (.load t (.global g)) ty K E σ := by
  refine semD_pure r hfit (fun _ e => by cases e) (fun C w ρ Im M a H hw _ => ?_) hK
  have hgk := (hw.gok H) _ hg
  obtain ⟨y, hrun, hrep⟩ := load_sound (P := S.P) (w := w) (ρ := ρ) (Im := Im) (b := g) (o := 0) (ys := cs) hp ⟨by simp, fun j c y hc hy => by
    rw [List.getElem?_map, hy] at hc; simp at hc; subst hc; exact .im _ _ (.v _)⟩ (fun y hy => by
      obtain ⟨i, hi⟩ := List.mem_iff_getElem?.1 hy; exact (hgk.2 i y hi).2) (fun i v hv => by rw [Nat.zero_add]; exact (hgk.2 i v hv).1)
  exact ⟨y, fun _ _ _ => by simp [execOp, Act.eval, Instr.loadAt, Instr.sureAddr, hrun], hrep⟩
theorem toStr_mk {s t e : TypeId} {x : Operand} (l : List Int) (hx : srcC σ (ev E x) = some (1, l.map Y)) (hns : ∀ b, ev E x ≠ .v (.string b)) (hs : S.P.underlying s = some (.slice e)) (he : S.P.underlying e = some (.int .u8)) (ht : S.P.underlying t = some .string)
    (hK : K (updO E dst (.v (.string (strOfNums l)))) σ) (hfit : (dst.all (decide <| · < S.N) && Op.low S.N (.convert s t x)) = true := by kernel_rfl) : semD S dst (.convert s t x) ty K E σ := by
  refine semD_pure _ hfit (fun _ e => by cases e) (fun C w ρ Im M a H hw rep => ⟨_, fun _ _ _ => ?_, .im _ _ (.v (.string (strOfNums l)))⟩) hK
  have hr := rep x (by simp [Op.operands])
  obtain ⟨sz, xs, ⟨rfl, rfl⟩, hsrc⟩ := src_cells hw.inv (srcC_of (K := fun sz xs => sz = 1 ∧ xs = l.map Y) hx ⟨rfl, rfl⟩) hr
  rcases hsrc with ⟨ad, cap, hy, _, hmem⟩ | ⟨b, hb, _⟩
  · rw [List.length_map] at hy
    cases ad with
    | none =>
      rcases hmem with ⟨h0, _⟩ | ⟨b, o, h0, _⟩
      · have hl : l = [] := by simpa using h0
        subst hl
        simp only [execOp, hy, Sem.run_bind, run_convert_bytes_nil w s e hs he _ _ t ht, Result.andThen_ok, Sem.run_pure]
        rfl
      · cases h0
    | some ad =>
      rcases hmem with ⟨h0, _⟩ | ⟨b, o, h0, _, hc⟩
      · have hl : l = [] := by simpa using h0
        subst hl
        have := run_convert_bytes_back w s t e ad cap [] hs he ht (fun j hj => absurd hj (by simp))
        simp only [List.length_nil] at this hy
        simp only [execOp, hy, Sem.run_bind, this, Result.andThen_ok, Sem.run_pure]
        rfl
      · cases h0
        have hc : ∀ i, i < l.length → w.cell? ⟨b, o + i, none⟩ = some (.int .u8 (l.getD i 0)) := fun i hi => by
          obtain ⟨v, hv, _, hrv⟩ := hc i (Y (l.getD i 0)) 0 (Y (l.getD i 0)) (by simp [List.getElem?_map, List.getD_eq_getElem?_getD, hi]) rfl
          have := hrv.v_inv
          subst this
          simpa using hv
        simp only [execOp, hy, Sem.run_bind, run_convert_bytes_arg w s e hs he b o l.length cap l rfl hc t ht, Result.andThen_ok, Sem.run_pure]
  · exact absurd hb (hns b)
theorem sliceArr_mk {t e : TypeId} {x : Operand} {lo hi : Option Operand} {c : AV} {j m : Nat} (l h : Nat) (hx : ev E x = .pt c j) (ht : tarr S.P t = some (m, e)) (hs : tsz S.P e = 1) (hm : j + m ≤ c.cells.length)
    (hb : bound E hi m fun h' => bound E lo 0 fun l' => l' = l ∧ h' = h ∧ l ≤ h ∧ h ≤ m) (hK : K (updO E dst (.sl 1 ((c.cells.drop (j + l)).take (h - l)))) σ)
    (hat : ∀ a ∈ c.cells, a.cells = [a] := by simp) (hfit : (dst.all (decide <| · < S.N) && Op.low S.N (.slice t x lo hi none)) = true := by kernel_rfl) : semD S dst (.slice t x lo hi none) ty K E σ := by
  refine semD_pure _ hfit (fun _ e => by cases e) (fun C w ρ Im M a H hw rep => ?_) hK
  have hr := rep x (by simp [Op.operands])
  obtain ⟨h', hb, hh⟩ := bound_sound (w := w) (ρ := ρ) (Im := Im) hb fun o ho => rep o (by subst ho; simp [Op.operands])
  obtain ⟨l', ⟨rfl, rfl, hlh, hhm⟩, hl⟩ := bound_sound (w := w) (ρ := ρ) (Im := Im) hb fun o ho => rep o (by subst ho; simp [Op.operands])
  rw [hx] at hr
  cases hr with
  | im _ _ hr =>
    generalize hax : a.eval x = ax at hr
    cases hr with
    | pt _ _ b o f hIm hc hrep =>
      have key : (Instr.sliceBounds false m m (lo.map a.eval) (hi.map a.eval) none).run S.P w = .ok (l', h', m) w := by
        unfold Instr.sliceBounds
        rcases hh with ⟨rfl, rfl⟩ | ⟨o, k, rfl, ho⟩ <;> rcases hl with ⟨rfl, rfl⟩ | ⟨o', k', rfl, ho'⟩
        · simp
        · simp [ho', run_sliceBound hlh]
        · simp [ho, run_sliceBound hhm]
        · simp [ho, ho', run_sliceBound hhm, run_sliceBound hlh]
      refine ⟨.slice (some (if m = l' then ⟨b, o + j, none⟩ else (⟨b, o + j, none⟩ : Addr).add (l' * 1))) (h' - l') (m - l'), fun _ _ _ => ?_, ?_⟩
      · have hz := run_sizeOf' (P := S.P) (t := e) (by omega) w
        rw [hs] at hz
        simp only [execOp, hax, Instr.sliceAt, Instr.sureAddr, Option.map_none, Sem.run_bind, run_underlying (tarr_of ht) w, Result.andThen_ok, key, hz, Sem.run_pure]
      · have hcl : ((c.cells.drop (j + l')).take (h' - l')).length = h' - l' := by rw [List.length_take, List.length_drop]; omega
        by_cases h0 : h' - l' = 0
        · rw [h0]; simp only [List.take_zero]; exact .im _ _ (.slnil ..)
        · have hne : ¬ m = l' := by omega
          rw [if_neg hne]
          have hadd : (⟨b, o + j, none⟩ : Addr).add (l' * 1) = ⟨b, o + j + l', none⟩ := by rw [add_none, Nat.mul_one]
          rw [hadd]
          have := IRep.sl (w := w) (Im := Im) 1 ((c.cells.drop (j + l')).take (h' - l')) b (o + j + l') (m - l') (fun i _ => f (j + l' + i)) hIm (by rw [hcl]; omega)
            (fun a ha => by rw [hat a (List.mem_of_mem_drop (List.mem_of_mem_take ha))]; rfl) (fun i q hi hq => by
              have : q = 0 := by omega
              subst this
              rw [hcl] at hi
              have := hc (j + l' + i) (by omega)
              rw [show o + j + l' + i * 1 + 0 = o + (j + l' + i) from by omega]; exact this) (fun i a q c' ha hq => by
              have hi := (List.getElem?_eq_some_iff.1 ha).1
              rw [hcl] at hi
              rw [List.getElem?_take, if_pos (by omega), List.getElem?_drop] at ha
              have h1 := hat a (List.mem_of_getElem? ha)
              rw [h1] at hq
              cases q with
              | succ q => simp at hq
              | zero => simp at hq; subst hq; exact hrep _ _ ha)
          rw [hcl] at this
          exact .im _ _ this
end
end Go.Vai
namespace Go.Vai
open Go.RowKit
section
variable {S : Sp} {dst : Option Nat} {ty : TypeId} {K : Env → Store → Prop} {E : Env} {σ : Store}
theorem toBytes_mk {s t e d : Nat} {x : Operand} (b : ByteArray) (hx : ev E x = .v (.string b)) (hs : S.P.underlying s = some .string) (ht : S.P.underlying t = some (.slice e)) (he : S.P.underlying e = some (.int .u8)) (hb : b.size ≤ 4611686018427387904)
    (hK : K (upd (killE (isId (16 * (S.b + d))) E) d (.own (16 * (S.b + d)) 1 0 b.size)) (updS (killS (isId (16 * (S.b + d))) σ) (16 * (S.b + d)) ⟨e, 1, (bI b).map Y⟩))
    (hd : (Nat.blt d S.N && Nat.blt d 100000) = true := by kernel_rfl) (hlow : Op.low S.N (.convert s t x) = true := by kernel_rfl) : semD S (some d) (.convert s t x) ty K E σ := by
  intro pos after guard C H n a w Kc Q ⟨ρ, Im, M, hw⟩ hKc
  simp only [Bool.and_eq_true] at hd
  have hd1 : d < S.N := Nat.le_of_ble_eq_true hd.1
  have hd2 : d < 100000 := Nat.le_of_ble_eq_true hd.2
  have hr := ev_rep hw.env (x := x) (by rw [hw.size, ← H.N]; exact low_of hlow (by simp [Op.operands]))
  rw [hx] at hr
  have hy := hr.v_inv
  have hrun := run_bytes_of_string (P := S.P) w s t e b hs ht he
  have hcap : b.size ≤ grownCap w b.size 0 e := grownCap_ge w _ 0 e
  have hbs : (bytesRow b (grownCap w b.size 0 e)).size = grownCap w b.size 0 e := by
    have : b.data.size = b.size := rfl
    simp only [bytesRow, Array.size_append, Array.size_map, Array.size_replicate, this]; omega
  have hcur : (bI b).map (fun n => Value.int .u8 n) = b.data.toList.map fun c => Value.int .u8 c.toNat := by simp only [bI, List.map_map]; rfl
  have hnew : (w.drew.alloc (.cells (bytesRow b (grownCap w b.size 0 e)) e ((bytesRow b (grownCap w b.size 0 e)).size, (bytesRow b (grownCap w b.size 0 e)).size + 1))).heap[w.heap.size]? = some (.cells (bytesRow b (grownCap w b.size 0 e)) e ((bytesRow b (grownCap w b.size 0 e)).size, (bytesRow b (grownCap w b.size 0 e)).size + 1)) := heap_alloc_new w.drew _
  have hk : ((⟨e, 1, (bI b).map Y⟩ : Blk).kill (isId (16 * (S.b + d)))) = ⟨e, 1, (bI b).map Y⟩ := by
    have : AV.namesL (isId (16 * (S.b + d))) ((bI b).map Y) = false := by
      generalize bI b = l
      induction l with
      | nil => rfl
      | cons x l ih => simp [AV.namesL, AV.namesB, ih]
    simp [Blk.kill, this]
  have h2 := hw.renew H.G (id := 16 * (S.b + d)) (d := d) (by rw [← H.N]; exact hd1) (k := ⟨e, 1, (bI b).map Y⟩) (g := w.heap.size) (cur := bytesRow b (grownCap w b.size 0 e)) (n := b.size) (cap := grownCap w b.size 0 e) (sz := 1)
    (w' := w.drew.alloc (.cells (bytesRow b (grownCap w b.size 0 e)) e ((bytesRow b (grownCap w b.size 0 e)).size, (bytesRow b (grownCap w b.size 0 e)).size + 1)))
    ⟨rfl, rfl, rfl, by simp, fun q hq _ => Below.heap_alloc w.drew _ q hq⟩ (.inr (Nat.le_refl _)) (fun q _ hq => Below.heap_alloc w.drew _ q hq) ⟨_, hnew, .inr rfl⟩ (fun e he => by obtain ⟨x, _, rfl⟩ := List.mem_map.1 he; rfl)
    (by simp only [List.length_map, bI_length, Nat.mul_one]; rw [hbs]; exact hcap) (fun i e' j c he' hc => ?_) hcap (grownCap_le_maxLen w _ 0 e (by simp only [maxLen]; omega)) (by rw [hbs, Nat.mul_one]) (by decide) Nat.one_ne_zero (H.free hd2 0 (by omega))
  · rw [hk] at h2
    refine wpIn_value (fun _ e => by cases e) ?_ (hKc _ _ _ _ hK ⟨_, _, _, h2⟩)
    simp only [execOp, hy, Sem.run_bind, hrun, Result.andThen_ok, Sem.run_pure]
  · rw [List.getElem?_map] at he'
    cases hn : (bI b)[i]? with
    | none => simp [hn] at he'
    | some n =>
      simp [hn] at he'; subst he'
      cases j with
      | succ j => simp at hc
      | zero =>
        simp at hc; subst hc
        refine ⟨.int .u8 n, ?_, rfl, .im _ _ (.v _)⟩
        have hi : i < (bI b).length := (List.getElem?_eq_some_iff.1 hn).1
        rw [bI_length] at hi
        have := bytesRow_at b (grownCap w b.size 0 e) i hi
        simp only [Nat.mul_one, Nat.add_zero]
        rw [this]
        simp only [bI, List.getElem?_map, Option.map_eq_some_iff] at hn
        obtain ⟨c, hc, rfl⟩ := hn
        have hc' : b.data[i]? = some c := by simpa using hc
        rw [Array.getElem?_eq_getElem hi] at hc'
        cases hc'; rfl
theorem slice3_mk {t e : TypeId} {x mx : Operand} {lo hi : Option Operand} {sz : Nat} {es : List AV} (l h : Nat) {km : IntKind} (hx : ev E x = .sl sz es) (ht : tel S.P t = some e) (hz : tsz S.P e = sz) (h0 : 0 < sz) (hm : ev E mx = .v (.int km h)) (hhi : hi ≠ none)
    (hb : bound E hi es.length fun h' => bound E lo 0 fun l' => l' = l ∧ h' = h ∧ l ≤ h ∧ h ≤ es.length) (hK : K (updO E dst (.sl sz ((es.drop l).take (h - l)))) σ)
    (hfit : (dst.all (decide <| · < S.N) && Op.low S.N (.slice t x lo hi (some mx))) = true := by kernel_rfl) : semD S dst (.slice t x lo hi (some mx)) ty K E σ := by
  refine semD_pure _ hfit (fun _ e => by cases e) (fun C w ρ Im M a H hw rep => ?_) hK
  have hr := rep x (by simp [Op.operands])
  have hmr := rep mx (by simp [Op.operands])
  rw [hm] at hmr
  have hmv := hmr.v_inv
  obtain ⟨h', hb, hh⟩ := bound_sound (w := w) (ρ := ρ) (Im := Im) hb fun o ho => rep o (by subst ho; simp [Op.operands])
  obtain ⟨l', ⟨rfl, rfl, hlh, hhm⟩, hl⟩ := bound_sound (w := w) (ρ := ρ) (Im := Im) hb fun o ho => rep o (by subst ho; simp [Op.operands])
  rw [hx] at hr
  obtain ⟨ad, n', cap, hy, hn', h1, h2, h3, _, hrep⟩ := slCut_sound (P := S.P) (e := e) (lo := l') (hi := h') (r := .sl sz ((es.drop l').take (h' - l'))) (x := .sl sz es) ⟨h0, hz, hlh, hhm, rfl⟩ hr
  simp only [lenV, Option.some.injEq] at hn'
  subst hn'
  have hmx : mx ∈ (Op.slice t x lo hi (some mx)).operands := by simp [Op.operands]
  have key : (Instr.sliceBounds true es.length cap (lo.map a.eval) (hi.map a.eval) (some (a.eval mx))).run S.P w = .ok (l', h', h') w := by
    unfold Instr.sliceBounds
    have r1 := fun c => run_sliceBound (P := S.P) (w := w) (k := km) (code := c) (show h' ≤ cap by omega)
    have r2 := fun k c => run_sliceBound (P := S.P) (w := w) (k := k) (code := c) (Nat.le_refl h')
    have r3 := fun k c => run_sliceBound (P := S.P) (w := w) (k := k) (code := c) hlh
    rw [hmv]
    rcases hh with ⟨rfl, rfl⟩ | ⟨o, k, rfl, ho⟩
    · exact absurd rfl hhi
    · rcases hl with ⟨rfl, rfl⟩ | ⟨o', k', rfl, ho'⟩
      · simp [ho, r1, r2]
      · simp [ho, ho', r1, r2, r3]
  have hsz := run_sizeOf' (P := S.P) (t := e) (by omega) w
  refine ⟨.slice (if h' = l' then ad else ad.map (·.add (l' * tsz S.P e))) (h' - l') (h' - l'), fun _ _ _ => ?_, ?_⟩
  · simp only [execOp, hy, Option.map_some, Instr.sliceAt, Instr.slice, Sem.run_bind, run_underlying (tel_of ht) w, Result.andThen_ok, key, hsz, Sem.run_pure]
  · have hL : ((es.drop l').take (h' - l')).length = h' - l' := by rw [List.length_take, List.length_drop]; omega
    by_cases e0 : h' - l' = 0
    · have : (es.drop l').take (h' - l') = [] := by rw [e0]; rfl
      rw [this, e0]; exact .im _ _ (.slnil ..)
    · rw [if_neg (by omega)]
      rw [if_neg (by omega)] at hrep
      generalize ad.map (·.add (l' * tsz S.P e)) = ad' at hrep
      generalize (es.drop l').take (h' - l') = L at *
      generalize h' - l' = q at *
      generalize cap - l' = c at *
      clear key
      cases hrep with
      | im _ _ hr =>
        cases hr with
        | slnil => simp at hL; omega
        | sl _ _ b o cap' f hIm hcap hl' hc hrep' => exact .im _ _ (.sl _ _ b o _ f hIm (Nat.le_refl _) hl' hc hrep')
end
end Go.Vai
namespace Go.Vai
open Go.RowKit
section
variable {S : Sp} {dst : Option Nat} {ty : TypeId} {K : Env → Store → Prop} {E : Env} {σ : Store}
end
end Go.Vai
namespace Go.Vai
open Go.RowKit
def spM (P : Program) (f : FuncId) (N : Nat) (pins bad : List Nat) : Sp := { P, N, b := 131072 * (f + 1), pin := inI pins, yl := 0, Y := fun _ _ _ => False, bad := inI bad, old := fun i => Nat.blt (i / 16) (131072 * (f + 1)) || Nat.ble (131072 * (f + 1) + 100000) (i / 16) }
instance (P : Program) (f N : Nat) (pins bad : List Nat) : Plain (spM P f N pins bad) := ⟨fun _ _ _ _ _ hk => (show False from hk).elim⟩
section
variable (P : Program) (f N : Nat) (pins bad : List Nat)
@[go_sem] theorem spM_P : (spM P f N pins bad).P = P := rfl
@[go_sem] theorem spM_b : (spM P f N pins bad).b = 131072 * (f + 1) := rfl
@[go_sem] theorem spM_bad (id : Nat) : (spM P f N pins bad).bad id = bad.contains id := rfl
@[go_sem] theorem spM_N : (spM P f N pins bad).N = N := rfl
@[go_sem] theorem spM_pin (id : Nat) : (spM P f N pins bad).pin id = inI pins id := rfl
end
theorem lok_ofB (bad : List Nat) {P : Program} {f : FuncId} {fn : Func} {c : Code} {args : List AV} {l l' : List (Nat × Blk)} {r : AV} (pins : List Nat) (hf : P.funcs[f]? = some fn) (hb : fn.body = some c) (hok : fnB P fn bad c = true) (hmo : P.follows .mixedOrders = true)
    (hlen : args.length ≤ fn.ntmps) (hids : l.map (·.1) = l'.map (·.1)) (hpins : (pins.all fun i => (l.map (·.1)).contains i && (Nat.blt (i / 16) (131072 * (f + 1)) || Nat.ble (131072 * (f + 1) + 100000) (i / 16))) = true)
    (hold : (l.all fun p => Nat.blt (p.1 / 16) (131072 * (f + 1)) || Nat.ble (131072 * (f + 1) + 100000) (p.1 / 16)) = true)
    (h : awpC (spM P f fn.ntmps pins bad) c (retL (spM P f fn.ntmps pins bad) fn l' r) (initE args) (stO l)) : LOK P f (inI pins) args (stO l) r (stO l') := by
  simp only [fnB, Bool.and_eq_true, Bool.not_eq_true'] at hok
  obtain ⟨⟨⟨h1, h2⟩, h3⟩, h4⟩ := hok
  have h4 := Nat.le_of_ble_eq_true h4
  have h1 := codeOK_of c h1
  refine ⟨enters hf hb h3, fun w Im ρ vs hinv hgk hargs => ?_⟩
  let C : Fx := { w0 := w, X0 := fun b => ∃ id, ρ id = some b, Im0 := Im, G := fun _ _ _ => True, N := fn.ntmps, rd := none, pin := fun id => if inI pins id then some (ρ id) else none, J0 := Im, R0 := fun id b => ρ id = some b }
  simp only [List.all_eq_true, Bool.and_eq_true, Bool.or_eq_true] at hpins
  have hin : ∀ id, inI pins id = true → id ∈ pins := fun id hid => List.contains_iff_mem.1 hid
  have H : Holds (spM P f fn.ntmps pins bad) C := by
    refine ⟨rfl, gstable_true, fun _ _ _ hY => hY.elim, hmo, fun id b hp => ?_, fun id hp => ?_, h4, fun _ => rfl, fun id b _ hb => ?_, hgk, fun b hb => ⟨fun ⟨id, hid⟩ => hinv.apart id b hid (hgk.im hb), hinv.low b (hgk.im hb)⟩, (fun h => by cases h)⟩
    · simp only [C] at hp
      cases hn : inI pins id with
      | true => exact hn
      | false => simp [hn] at hp
    · rcases (hpins id (hin id hp)).2 with h' | h'
      · exact .inl (Nat.le_of_ble_eq_true h')
      · exact .inr (Nat.le_of_ble_eq_true h')
    · cases hs : stO l id with
      | none => exact absurd hs (hinv.live id b hb)
      | some k => exact List.all_eq_true.1 hold _ (stO_mem hs)
  have hawp := awpC_of (S := spM P f fn.ntmps pins bad) (fun _ _ _ _ _ hk => (show False from hk).elim) c (Q' := retG P fn fun vs _ σ => lretK (inI (l'.map (·.1))) l' r σ vs) (fun e E σ hk => by
    cases e <;> first | exact hk.elim | exact rvC_of _ _ hk) h
  refine body_sound (E0 := initE args) (S := spM P f fn.ntmps pins bad) (C := C) (ρ0 := ρ) (Im0 := Im) (M0 := ⟨fun _ => False, fun _ => False⟩) H rfl hf hb rfl h1 h2 ?_ hawp fun E σ tm w' ρ' I M us ys hk hrest hr => ?_
  · refine ⟨hinv, env_init hargs, ?_, Ext.refl _ _, fun i b hi => .inl ⟨⟨i, hi⟩, hi⟩, fun b hb => .inl hb, fun p => ?_, trivial, fun b hb => hb.elim, fun b hb => hb.elim, fun l r hr => (by cases hr), .nil, fun d hd => (by cases hd), fun b hb => ?_, fun id ob hp => ?_, fun b hb => hb⟩
    · simp only [Array.size_append, List.size_toArray, Array.size_replicate]
      have := hargs.1
      show vs.length + (fn.ntmps - vs.length) = fn.ntmps
      omega
    · show AV.namesB p (initE args fn.ntmps) = false
      rw [initE_out args _ hlen]; rfl
    · rcases hb with ⟨r, hr⟩ | hd
      · cases hr
      · cases hd
    · simp only [C] at hp
      split at hp
      · cases hp; rfl
      · cases hp
  · obtain ⟨ρ2, Im2, i2, a1, a2, a3, a4, a5⟩ := lret_sound (ρ0 := ρ) hrest hinv.low (fun id b h => h) (fun id b hb => ⟨by
      rw [← hids]
      have := hinv.live id b hb
      cases hs : stO l id with
      | none => exact absurd hs this
      | some k => exact List.mem_map.2 ⟨_, stO_mem hs, rfl⟩, hinv.lt hb, hinv.apart id b hb⟩) hr hk
    refine ⟨_, ρ2, Im2, rfl, hrest.ext, i2, fun b hb => ?_, a2, a3, fun id hid => ?_, a5⟩
    · exact a1 b (hrest.j0 b hb)
    · rw [a4 id (by
        have := (hpins id (hin id hid)).1
        rw [hids] at this; exact this)]
      exact hrest.pin id (ρ id) (by simp [C, hid])
theorem region_W {S : Sp} {id : Nat} {ops : Array Oper} {Q : Exit → Env → Store → Prop} {E : Env} {σ : Store}
    (h : ∀ (C : Fx) (H : Holds S C) (n : Nat) (R : Exit → Act → World → Prop), (∀ e E σ a w, Q e E σ → St C E σ a w → R e a w) → ∀ a w, St C E σ a w →
      ∃ V : (Nat → Bool) → Act → World → Prop, V (fun _ => false) a w ∧ (∀ D a w, (∀ i, i < ops.size → D i = true) → V D a w → R .normal a w) ∧
        ∀ i o, ops[i]? = some o → ∀ D, D i = false → (∀ e ∈ o.after.toList, Region.binds .any e = true → D e.on = true) → ∀ a w, V D a w → ∀ Kc : Act → World → Prop, (∀ a' w', V (insJ D i) a' w' → Kc a' w') → wpTurn n S.P C.rdl ops o Kc R a w)
    (hedge : edgesQ 0 ops.toList = true := by kernel_rfl) : semC S (.region id ops true) Q E σ := by
  intro C H n R hR a w hs
  have hlist : ∀ (i : Nat) (o : Oper), ops[i]? = some o → ops.toList[i]? = some o := fun i o ho => by rw [Array.getElem?_toList]; exact ho
  obtain ⟨V, h0, hend, hsteps⟩ := h C H n R hR a _ (hs.drew H.G (w.drawn + 1))
  refine wpIn_region_any H.mo ?_
  have key : ∀ (fuel : Nat) (listed : Array Bool) (a : Act) (w : World), listed.size = ops.size → (rem ops listed).length ≤ fuel →
      V (fun i => listed.getD i false) a w → wpAnyIn (FW C.rdl) n S.P .any ops R fuel listed a w := by
    intro fuel
    have full : ∀ (listed : Array Bool), listed.size = ops.size → rem ops listed = [] → ∀ i, i < ops.size → listed.getD i false = true := fun listed hsz hr i hi => by
      cases hl : listed.getD i false with
      | true => rfl
      | false =>
        have : i ∈ rem ops listed := mem_rem.2 ⟨hi, by
          simp only [Array.getD_eq_getD_getElem?] at hl ⊢
          rw [Array.getElem?_eq_getElem (by omega)] at hl ⊢; exact hl⟩
        rw [hr] at this; simp at this
    induction fuel with
    | zero =>
      intro listed a w hsz hle hv
      have h0 : rem ops listed = [] := List.eq_nil_of_length_eq_zero (by omega)
      refine ⟨?_, hend _ _ _ (full listed hsz h0) hv⟩
      cases hr : Region.ready .any ops listed with
      | nil => rfl
      | cons i l =>
        have hi : i ∈ Region.ready .any ops listed := by rw [hr]; simp
        obtain ⟨h1, o, ho, _⟩ := mem_ready.1 hi
        have : i ∈ rem ops listed := mem_rem.2 ⟨(Array.getElem?_eq_some_iff.1 ho).1, h1⟩
        rw [h0] at this; simp at this
    | succ fuel ih =>
      intro listed a w hsz hle hv
      have getD_same : ∀ i, i < ops.size → listed.getD i true = listed.getD i false := fun i hi => by
        simp only [Array.getD_eq_getD_getElem?]; rw [Array.getElem?_eq_getElem (by omega)]; rfl
      refine ⟨fun hr0 => ?_, fun i hi => ?_⟩
      · have hr : rem ops listed = [] := by
          cases hr : rem ops listed with
          | nil => rfl
          | cons i l =>
            exfalso
            have hm : i ∈ rem ops listed := by rw [hr]; simp
            obtain ⟨hlt, hun⟩ := mem_rem.1 hm
            have : i ∈ Region.ready .any ops listed := mem_ready.2 ⟨hun, _, Array.getElem?_eq_getElem hlt, fun e he hb => by
              have hei := edgesQ_at hedge (hlist i _ (Array.getElem?_eq_getElem hlt)) e he hb
              cases hl : listed.getD e.on false with
              | true => rfl
              | false =>
                have hme : e.on ∈ rem ops listed := mem_rem.2 ⟨by omega, by rw [getD_same _ (by omega)]; exact hl⟩
                have hsort := rem_sorted (ops := ops) listed
                rw [hr] at hme hsort
                rcases List.mem_cons.1 hme with h | h
                · omega
                · have := (List.pairwise_cons.1 hsort).1 _ h; omega⟩
            rw [hr0] at this; simp at this
        exact hend _ _ _ (full listed hsz hr) hv
      · obtain ⟨hun, o, ho, hedges⟩ := mem_ready.1 hi
        have hlt : i < ops.size := (Array.getElem?_eq_some_iff.1 ho).1
        have hm : i ∈ rem ops listed := mem_rem.2 ⟨hlt, hun⟩
        obtain ⟨pre, post, hsplit⟩ := List.append_of_mem hm
        have hset := rem_set hsz hsplit
        have hD : (fun k => (listed.setIfInBounds i true).getD k false) = insJ (fun k => listed.getD k false) i := by
          funext k
          simp only [insJ, Array.getD_eq_getD_getElem?]
          by_cases hk : k = i
          · subst hk; simp [hsz, hlt]
          · rw [Array.getElem?_setIfInBounds_ne (Ne.symm hk)]; simp [hk]
        have hstep := hsteps i o ho (fun k => listed.getD k false) (by rw [← getD_same i hlt]; exact hun) (fun e he hb => hedges e (Array.mem_toList_iff.1 he) hb) a w hv
        have next : ∀ a' w', V (insJ (fun k => listed.getD k false) i) a' w' → wpAnyIn (FW C.rdl) n S.P .any ops R fuel (listed.setIfInBounds i true) a' w' := fun a' w' h1 => by
          refine ih (listed.setIfInBounds i true) a' w' (by simpa using hsz) ?_ (by rw [hD]; exact h1)
          rw [hset]; rw [hsplit] at hle; simp at hle ⊢; omega
        exact wpTurn_in ho (hstep _ next)
  exact key ops.size _ a _ (by simp) (by unfold rem; exact Nat.le_trans (List.length_filter_le _ _) (by simp)) (by
    have : (fun i => (Array.replicate ops.size false).getD i false) = fun _ => false := by
      funext i; simp only [Array.getD_eq_getD_getElem?, Array.getElem?_replicate]; split <;> rfl
    rw [this]; exact h0)
theorem turn_value {S : Sp} {C : Fx} {n : Nat} {ops : Array Oper} {o : Oper} {y : Value} {a : Act} {w w' : World} {Kc : Act → World → Prop} {R : Exit → Act → World → Prop} (hg : o.guard = none) (hdf : ∀ c, o.op ≠ .defer c)
    (hrun : (execOp a.eval o).run S.P w = .ok (.value y) w') (hK : Kc (a.put o.dst y) w') : wpTurn n S.P C.rdl ops o Kc R a w := by
  unfold wpTurn
  rw [if_pos (by simp [Region.wanted, hg])]
  exact wpIn_value hdf hrun hK
theorem Wit.forgetE {C : Fx} {E : Env} {σ : Store} {a : Act} {w : World} {ρ : Nat → Option Nat} {Im : Nat → Prop} {M : Str} (h : Wit C E σ a w ρ Im M) {d : Nat} (hd : d < C.N) : Wit C (upd E d .any) σ a w ρ Im M :=
  { h with
    env := fun t y hy => by
      simp only [upd]; split
      · exact .im _ _ (.any _)
      · exact h.env t y hy
    gh := fun p => by simp only [upd]; rw [if_neg (by omega)]; exact h.gh p
    g := by simp only [upd]; rw [if_neg (by omega)]; exact h.g }
theorem copy8_mk {S : Sp} {id t e t' ty1 ty2 ty3 : Nat} {p1 p2 p3 : String} {x d1 d2 d3 bid : Nat} {a1 a2 a3 : Array Edge} {Q : Exit → Env → Store → Prop} {E : Env} {σ : Store} {te : TypeId} {cs : List AV} (ht : tarr S.P t = some (8, e)) (hs1 : tsz S.P e = 1) (htl : tel S.P t' = some e)
    (hx : E x = .ptr bid 8 0 0) (hk : σ bid = some ⟨te, 8, [.agg cs]⟩) (hcl : cs.length = 8) (hat : ∀ c ∈ cs, c.cells = [c]) (hne : d1 ≠ x ∧ d2 ≠ x ∧ d1 ≠ d2 ∧ d3 ≠ x ∧ d3 ≠ d1 ∧ d3 ≠ d2) (hlt : x < S.N ∧ d1 < S.N ∧ d2 < S.N ∧ d3 < S.N)
    (hdep : ((a3.toList.any fun e => Region.binds .any e && e.on == 0) && (a3.toList.any fun e => Region.binds .any e && e.on == 1)) = true)
    (cs' : List AV) (hcs : cs.take 1 ++ cs.take 7 = cs') (hQ : Q .normal (upd (upd (upd E d1 .any) d2 .any) d3 .any) (updS σ bid ⟨te, 8, [.agg cs']⟩))
    (hedge : edgesQ 0 [⟨some d1, .slice t (.tmp x) (some (.const (.int .i64 1))) none none, ty1, p1, a1, none⟩, ⟨some d2, .slice t (.tmp x) none (some (.const (.int .i64 7))) none, ty2, p2, a2, none⟩, ⟨some d3, .call { callee := .builtin .copy, args := #[.tmp d1, .tmp d2], argTypes := #[t', t'] }, ty3, p3, a3, none⟩] = true := by kernel_rfl) :
    semC S (.region id #[⟨some d1, .slice t (.tmp x) (some (.const (.int .i64 1))) none none, ty1, p1, a1, none⟩, ⟨some d2, .slice t (.tmp x) none (some (.const (.int .i64 7))) none, ty2, p2, a2, none⟩, ⟨some d3, .call { callee := .builtin .copy, args := #[.tmp d1, .tmp d2], argTypes := #[t', t'] }, ty3, p3, a3, none⟩] true) Q E σ := by
  subst hcs
  refine region_W (fun C H n R hR a0 w0 hs => ?_) hedge
  obtain ⟨ρ, Im, M, hw⟩ := hs
  have hsz : a0.tmps.size = C.N := hw.size
  have hN := H.N
  have hb : ∃ b, a0.eval (.tmp x) = .pointer (some ⟨b, 0, none⟩) ∧ ρ bid = some b := by
    have hlx : x < a0.tmps.size := by omega
    have hr := hw.env x a0.tmps[x] (Array.getElem?_eq_getElem hlx)
    rw [hx] at hr
    have he : a0.eval (.tmp x) = a0.tmps[x] := by simp [Act.eval, hlx]
    rw [he]
    generalize a0.tmps[x] = y at hr
    cases hr with
    | im _ _ h => cases h
    | ptr _ _ _ _ b hρ hz => exact ⟨b, by simp, hρ⟩
  obtain ⟨b, hxe, hρ⟩ := hb
  have hxt : a0.tmps[x]? = some (.pointer (some ⟨b, 0, none⟩)) := by
    have hlx : x < a0.tmps.size := by omega
    have he : a0.eval (.tmp x) = a0.tmps[x] := by simp [Act.eval, hlx]
    rw [Array.getElem?_eq_getElem hlx, ← he, hxe]
  refine ⟨fun D a w => a.tmps.size = C.N ∧ a.tmps[x]? = some (.pointer (some ⟨b, 0, none⟩)) ∧ (D 0 = true → a.tmps[d1]? = some (.slice (some ⟨b, 1, none⟩) 7 7)) ∧ (D 1 = true → a.tmps[d2]? = some (.slice (some ⟨b, 0, none⟩) 7 8)) ∧
    Wit C (upd (upd (upd E d1 .any) d2 .any) d3 .any) (if D 2 = true then updS σ bid ⟨te, 8, [.agg (cs.take 1 ++ cs.take 7)]⟩ else σ) a w ρ Im M, ⟨hsz, hxt, fun h => (by cases h), fun h => (by cases h), ?_⟩, fun D a w hD hv => ?_, fun i o ho D hDi hdeps a w ⟨h1, h2, h3, h4, h5⟩ Kc hKc => ?_⟩
  · simp only [Bool.false_eq_true, if_false]
    exact ((hw.forgetE (by omega)).forgetE (by omega)).forgetE (by omega)
  · have h5 := hv.2.2.2.2
    rw [if_pos (hD 2 (by show 2 < 3; omega))] at h5
    exact hR _ _ _ _ _ hQ ⟨ρ, Im, M, h5⟩
  · have same : ∀ d, d = d1 ∨ d = d2 ∨ d = d3 → (upd (upd (upd E d1 .any) d2 .any) d3 .any) d = .any := fun d hd => by
      simp only [upd]; rcases hd with rfl | rfl | rfl <;> (repeat' split) <;> simp_all
    have hput : ∀ {d : Nat} {y v : Value} {t : Nat}, t ≠ d → a.tmps[t]? = some v → (a.put (some d) y).tmps[t]? = some v := fun {d y v t} hne hv => by
      simp only [Act.put]; rw [Array.getElem?_setIfInBounds_ne (Ne.symm hne)]; exact hv
    have hput' : ∀ {d : Nat} {y : Value}, d < S.N → (a.put (some d) y).tmps[d]? = some y := fun {d y} hd => by
      simp only [Act.put]; rw [Array.getElem?_setIfInBounds_self_of_lt (by omega)]
    have hax : a.eval (.tmp x) = .pointer (some ⟨b, 0, none⟩) := by simp [Act.eval, h2]
    have hz := run_sizeOf' (P := S.P) (t := e) (by omega) w
    rw [hs1] at hz
    match i, ho with
    | 0, ho =>
      cases ho
      have hrun : (execOp a.eval ⟨some d1, .slice t (.tmp x) (some (.const (.int .i64 1))) none none, ty1, p1, a1, none⟩).run S.P w = .ok (.value (.slice (some ⟨b, 1, none⟩) 7 7)) w := by
        have key : (Instr.sliceBounds false 8 8 (some (.int .i64 1)) none none).run S.P w = .ok (1, 8, 8) w := by
          unfold Instr.sliceBounds
          have := fun c => run_sliceBound (P := S.P) (w := w) (k := .i64) (code := c) (show 1 ≤ 8 by omega)
          simp at this
          simp [this]
        have hc : a.eval (.const (.int .i64 1)) = .int .i64 1 := rfl
        simp only [execOp, hax, Option.map_some, Option.map_none, hc, Instr.sliceAt, Instr.sureAddr, Sem.run_bind, run_underlying (tarr_of ht) w, Result.andThen_ok, key, hz, Sem.run_pure]
        rfl
      refine turn_value rfl (fun _ e => by cases e) hrun (hKc _ _ ⟨by rw [put_size]; exact h1, hput (Ne.symm hne.1) h2, fun _ => hput' hlt.2.1, fun h => hput (Ne.symm hne.2.2.1) (h4 (by simpa [insJ] using h)), ?_⟩)
      have h6 := h5.put H.G (dst := some d1) (v := .any) (y := .slice (some ⟨b, 1, none⟩) 7 7) (fun d e => by cases e; omega) (.im _ _ (.any _))
      have e1 : updO (upd (upd (upd E d1 .any) d2 .any) d3 .any) (some d1) .any = upd (upd (upd E d1 .any) d2 .any) d3 .any := upd_self _ _ _ (same d1 (.inl rfl))
      rw [e1] at h6
      simpa [insJ] using h6
    | 1, ho =>
      cases ho
      have hrun : (execOp a.eval ⟨some d2, .slice t (.tmp x) none (some (.const (.int .i64 7))) none, ty2, p2, a2, none⟩).run S.P w = .ok (.value (.slice (some ⟨b, 0, none⟩) 7 8)) w := by
        have key : (Instr.sliceBounds false 8 8 none (some (.int .i64 7)) none).run S.P w = .ok (0, 7, 8) w := by
          unfold Instr.sliceBounds
          have := fun c => run_sliceBound (P := S.P) (w := w) (k := .i64) (code := c) (show 7 ≤ 8 by omega)
          simp at this
          simp [this]
        have hc : a.eval (.const (.int .i64 7)) = .int .i64 7 := rfl
        simp only [execOp, hax, Option.map_some, Option.map_none, hc, Instr.sliceAt, Instr.sureAddr, Sem.run_bind, run_underlying (tarr_of ht) w, Result.andThen_ok, key, hz, Sem.run_pure]
        rfl
      refine turn_value rfl (fun _ e => by cases e) hrun (hKc _ _ ⟨by rw [put_size]; exact h1, hput (Ne.symm hne.2.1) h2, fun h => hput hne.2.2.1 (h3 (by simpa [insJ] using h)), fun _ => hput' hlt.2.2.1, ?_⟩)
      have h6 := h5.put H.G (dst := some d2) (v := .any) (y := .slice (some ⟨b, 0, none⟩) 7 8) (fun d e => by cases e; omega) (.im _ _ (.any _))
      have e1 : updO (upd (upd (upd E d1 .any) d2 .any) d3 .any) (some d2) .any = upd (upd (upd E d1 .any) d2 .any) d3 .any := upd_self _ _ _ (same d2 (.inr (.inl rfl)))
      rw [e1] at h6
      simpa [insJ] using h6
    | 2, ho =>
      cases ho
      simp only [Bool.and_eq_true, List.any_eq_true, beq_iff_eq] at hdep
      obtain ⟨⟨g1, m1, b1, on1⟩, ⟨g2, m2, b2, on2⟩⟩ := hdep
      have hd0 := h3 (by have := hdeps g1 m1 b1; rwa [on1] at this)
      have hd1 := h4 (by have := hdeps g2 m2 b2; rwa [on2] at this)
      rw [if_neg (by simp [hDi])] at h5
      obtain ⟨cur, hbb, hl, hsz', hcc⟩ := h5.inv.blk bid _ b hk hρ (by simp)
      simp only [List.length_singleton, Nat.one_mul] at hsz'
      have hvals : ∀ j, j < 8 → ∃ v, cur[j]? = some v ∧ v.oneCell' = true := fun j hj => by
        obtain ⟨v, hv, h1', _⟩ := hcc 0 (.agg cs) j cs[j] rfl (by simp)
        exact ⟨v, by simpa using hv, h1'⟩
      have hlen7 : (cur.toList.take 7).length = 7 := by simp; omega
      have hget : ∀ j v, (cur.toList.take 7)[j]? = some v → j < 7 ∧ cur[j]? = some v := fun j v hv => by
        rw [List.getElem?_take] at hv
        split at hv
        · exact ⟨by assumption, by simpa using hv⟩
        · cases hv
      have hone : ∀ v ∈ cur.toList.take 7, v.oneCell' = true := fun v hv => by
        obtain ⟨j, hj⟩ := List.mem_iff_getElem?.1 hv
        obtain ⟨hj7, hj⟩ := hget j v hj
        obtain ⟨v', hv', h1'⟩ := hvals j (by omega)
        rw [hj] at hv'; cases hv'; exact h1'
      obtain ⟨fr, hb0, hfr⟩ := hbb
      have hinfo : (S.P.info? e).map (·.size) = some 1 := by
        obtain ⟨inf, hi, hs, _⟩ := info_of (P := S.P) (t := e) (by omega)
        rw [hi]; simp [hs, hs1]
      have hrun1 := run_copy_cells (P := S.P) w t' t' ty3 e b 1 7 7 ⟨b, 0, none⟩ 7 8 (cur.toList.take 7) (tel_of htl) hinfo (by rw [hlen7]; rfl) (fun j v hv => by rw [add_none, cells_at ⟨fr, hb0, hfr⟩]; simpa using (hget j v hv).2)
        (fun j hj => by rw [hlen7] at hj; rw [cells_at ⟨fr, hb0, hfr⟩]; obtain ⟨v, hv, _⟩ := hvals (1 + j) (by omega); simp [hv]) (fun j hj => by rw [hlen7] at hj; exact mk_free hb0 hfr (by omega)) hone
      have hst1 := storeCells_mk S.P b 1 te (cur.toList.take 7) 0 cur w ⟨fr, hb0, hfr⟩ (by rw [hlen7]; omega) hone
      have hst2 := run_storeCells_cells (P := S.P) b 1 (cur.toList.take 7) 0 w (fun j hj => by rw [hlen7] at hj; rw [cells_at ⟨fr, hb0, hfr⟩]; obtain ⟨v, hv, _⟩ := hvals (1 + 0 + j) (by omega); simp [hv]) (fun j hj => by rw [hlen7] at hj; exact mk_free hb0 hfr (by omega)) hone
      rw [hst1] at hst2
      have heq : w.setCells b 1 (cur.toList.take 7) = w.setRow b (cur.toList.take 1 ++ cur.toList.take 7 ++ cur.toList.drop 8).toArray := by
        simp only [Nat.add_zero, hlen7] at hst2
        injection hst2 with _ h; exact h.symm
      rw [heq] at hrun1
      have ha1 : a.eval (.tmp d1) = .slice (some ⟨b, 1, none⟩) 7 7 := by simp [Act.eval, hd0]
      have ha2 : a.eval (.tmp d2) = .slice (some ⟨b, 0, none⟩) 7 8 := by simp [Act.eval, hd1]
      have hrun : (execOp a.eval ⟨some d3, .call { callee := .builtin .copy, args := #[.tmp d1, .tmp d2], argTypes := #[t', t'] }, ty3, p3, a3, none⟩).run S.P w = .ok (.value (goInt (cur.toList.take 7).length)) (w.setRow b (cur.toList.take 1 ++ cur.toList.take 7 ++ cur.toList.drop 8).toArray) := by
        simp [execOp, resolve, invoke, builtin, ha1, ha2, hrun1]
      have h7 := h5.turn H.G (k' := ⟨te, 8, [.agg (cs.take 1 ++ cs.take 7)]⟩) (cur' := (cur.toList.take 1 ++ cur.toList.take 7 ++ cur.toList.drop 8).toArray) hk hρ ⟨fr, hb0, hfr⟩ (by simp; omega) rfl (fun e he => by simp at he; subst he; simp; omega) (by simp; omega) (fun i e' j c he hc => by
        cases i with
        | succ i => simp at he
        | zero =>
          simp at he; subst he
          simp only [AV.cells_agg] at hc
          have hj : j < 8 := by have := (List.getElem?_eq_some_iff.1 hc).1; simp at this; omega
          have hsrc : ∃ q, q < 8 ∧ cs[q]? = some c ∧ (cur.toList.take 1 ++ cur.toList.take 7 ++ cur.toList.drop 8)[j]? = cur.toList[q]? := by
            by_cases hj0 : j = 0
            · subst hj0
              refine ⟨0, by omega, ?_, ?_⟩
              · rw [List.getElem?_append_left (by simp; omega), List.getElem?_take] at hc; simpa using hc
              · rw [List.append_assoc, List.getElem?_append_left (by simp; omega), List.getElem?_take]; simp
            · refine ⟨j - 1, by omega, ?_, ?_⟩
              · rw [List.getElem?_append_right (by simp; omega)] at hc
                have : j - (cs.take 1).length = j - 1 := by simp; omega
                rw [this, List.getElem?_take, if_pos (by omega)] at hc; exact hc
              · rw [List.getElem?_append_left (by simp; omega), List.getElem?_append_right (by simp; omega)]
                have : j - (cur.toList.take 1).length = j - 1 := by simp; omega
                rw [this, List.getElem?_take, if_pos (by omega)]
          obtain ⟨q, hq, hcq, hjq⟩ := hsrc
          obtain ⟨v, hv, h1', hr⟩ := hcc 0 (.agg cs) q c rfl hcq
          refine ⟨v, ?_, h1', hr⟩
          simp only [Nat.zero_mul, Nat.zero_add, List.getElem?_toArray]
          rw [hjq]; simpa using hv) (by simp)
      refine turn_value rfl (fun _ e => by cases e) hrun (hKc _ _ ⟨by rw [put_size]; exact h1, hput (Ne.symm hne.2.2.2.1) h2, fun h => hput (Ne.symm hne.2.2.2.2.1) (h3 (by simpa [insJ] using h)), fun h => hput (Ne.symm hne.2.2.2.2.2) (h4 (by simpa [insJ] using h)), ?_⟩)
      have h8 := h7.put H.G (dst := some d3) (v := .any) (y := goInt (cur.toList.take 7).length) (fun d e => by cases e; omega) (.im _ _ (.any _))
      have e1 : updO (upd (upd (upd E d1 .any) d2 .any) d3 .any) (some d3) .any = upd (upd (upd E d1 .any) d2 .any) d3 .any := upd_self _ _ _ (same d3 (.inr (.inr rfl)))
      rw [e1] at h8
      rw [if_pos (by simp [insJ])]
      exact h8
    | i + 3, ho => simp at ho
end Go.Vai
namespace Go.Vai
open Go.RowKit
theorem freeze_semD {S : Sp} {dst : Option Nat} {op : Op} {ty : TypeId} {K : Env → Store → Prop} {E : Env} {σ : Store} (F : List Nat) (h : semD S dst op ty K (frE (inI F) σ E) (frS (inI F) σ))
    (hF : (F.all fun i => !S.old i && !S.pin i) = true := by kernel_rfl) : semD S dst op ty K E σ := by
  intro pos after guard C H n a w Kc Q ⟨_, _, _, hw⟩ hKc
  simp only [List.all_eq_true, Bool.and_eq_true, Bool.not_eq_true'] at hF
  have hin : ∀ {id}, inI F id = true → id ∈ F := fun h => List.contains_iff_mem.1 h
  have no : ∀ {id} {b : Bool}, b = true → (inI F id = true → b = false) → inI F id = false := fun {id b} hb hh => by
    cases hi : inI F id with
    | false => rfl
    | true => have := hh hi; rw [hb] at this; cases this
  exact h pos after guard C H n a w Kc Q ⟨_, _, _, hw.freeze H (inI F) (fun id hid => no hid fun hi => (hF id (hin hi)).2) (fun id hid => no hid fun hi => (hF id (hin hi)).1)⟩ hKc
section
variable {P : Program} {S : Sp} {kd bi : Bool} {dst : Option Nat} {ty t : TypeId} {K Kb : Env → Store → Prop} {E : Env} {σ : Store} (aso : Array Operand) (ts : Array TypeId)
@[go_sem] theorem cls_ustr : cls P (.call { callee := .builtin .unsafeString, args := aso, argTypes := ts }) ty = 5 := rfl
@[go_sem] theorem cls_copy : cls P (.call { callee := .builtin .copy, args := aso, argTypes := ts }) ty = 5 := rfl
@[go_sem] theorem cls_cap : cls P (.call { callee := .builtin .cap, args := aso, argTypes := ts }) ty = 5 := rfl
@[go_sem] theorem cls_s2a (x : Operand) : cls P (.sliceToArrayPointer t x) ty = 5 := rfl
@[go_sem ↓] theorem aop_ustr : aopC S kd bi dst (.call { callee := .builtin .unsafeString, args := aso, argTypes := ts }) ty K Kb E σ = semD S dst (.call { callee := .builtin .unsafeString, args := aso, argTypes := ts }) ty Kb E σ := rfl
@[go_sem ↓] theorem aop_copy : aopC S kd bi dst (.call { callee := .builtin .copy, args := aso, argTypes := ts }) ty K Kb E σ = semD S dst (.call { callee := .builtin .copy, args := aso, argTypes := ts }) ty Kb E σ := rfl
@[go_sem ↓] theorem aop_cap : aopC S kd bi dst (.call { callee := .builtin .cap, args := aso, argTypes := ts }) ty K Kb E σ = semD S dst (.call { callee := .builtin .cap, args := aso, argTypes := ts }) ty Kb E σ := rfl
@[go_sem ↓] theorem aop_s2a (x : Operand) : aopC S kd bi dst (.sliceToArrayPointer t x) ty K Kb E σ = semD S dst (.sliceToArrayPointer t x) ty Kb E σ := rfl
end
end Go.Vai
namespace Go.Vai
open Go.RowKit
variable {P : Program} {C : Fx} {w : World} {ρ : Nat → Option Nat} {Im : Nat → Prop} {M : Str} {E : Env} {σ : Store} {a : Act}
def spZ (P : Program) (f : FuncId) (N l : Nat) (bad : List Nat) : Sp := { P, N, b := 131072 * (f + 1), pin := fun _ => false, yl := l, Y := seqY, bad := inI bad, old := fun i => Nat.blt (i / 16) (131072 * (f + 1)) || Nat.ble (131072 * (f + 1) + 100000) (i / 16) }
theorem spZ_mono (P : Program) (f : FuncId) (N l : Nat) (bad : List Nat) : YMono (spZ P f N l bad) := fun _ _ _ _ hK h => seqY_mono hK h
section
variable (P : Program) (f N l : Nat) (bad : List Nat)
@[go_sem] theorem spZ_P : (spZ P f N l bad).P = P := rfl
@[go_sem] theorem spZ_b : (spZ P f N l bad).b = 131072 * (f + 1) := rfl
@[go_sem] theorem spZ_bad (id : Nat) : (spZ P f N l bad).bad id = bad.contains id := rfl
@[go_sem] theorem spZ_N : (spZ P f N l bad).N = N := rfl
@[go_sem] theorem spZ_pin (id : Nat) : (spZ P f N l bad).pin id = false := rfl
@[go_sem] theorem spZ_yl : (spZ P f N l bad).yl = l := rfl
@[go_sem] theorem spZ_Y : (spZ P f N l bad).Y = seqY := rfl
end
theorem sok_ofB {f : FuncId} {fn : Func} {c : Code} {args : List AV} {xs : List (List AV)} {l0 : List (Nat × Blk)} (bad : List Nat) (hf : P.funcs[f]? = some fn) (hb : fn.body = some c) (hok : fnB P fn bad c = true) (hmo : P.follows .mixedOrders = true)
    (hlen : args.length < fn.ntmps) (hres : fn.results = #[]) (hxs : AV.namesL allB (xs.map .tup) = false)
    (hold : (l0.all fun p => Nat.blt (p.1 / 16) (131072 * (f + 1)) || Nat.ble (131072 * (f + 1) + 100000) (p.1 / 16)) = true)
    (h : ∀ l, awpC (spZ P f fn.ntmps l bad) c (fun e => match e with | .normal => fun E _ => E fn.ntmps = .tup [] ∨ E fn.ntmps = .any | .ret => fun E _ => E fn.ntmps = .tup [] ∨ E fn.ntmps = .any | _ => fun _ _ => False) (upd (initE (.yld l :: args)) fn.ntmps (.tup (xs.map .tup))) (stO l0)) : SOK P f args (stO l0) xs := by
  simp only [fnB, Bool.and_eq_true, Bool.not_eq_true'] at hok
  obtain ⟨⟨⟨h1, h2⟩, h3⟩, h4⟩ := hok
  have h4 := Nat.le_of_ble_eq_true h4
  have h1 := codeOK_of c h1
  have h : ∀ l, awp (spZ P f fn.ntmps l bad) c (retG P fn fun _ E _ => E fn.ntmps = .tup [] ∨ E fn.ntmps = .any) (upd (initE (.yld l :: args)) fn.ntmps (encG xs false)) (stO l0) := fun l =>
    awpC_of (spZ_mono P f fn.ntmps l bad) c (fun e E σ hk => by
      cases e <;> first | exact hk.elim | (simp only [retG, hres]; exact hk)) (h l)
  refine ⟨enters hf hb h3, fun w Im ρ vs l G M0 hG hinv hgk hargs hM hJ hans hG0 => ?_⟩
  let C : Fx := { w0 := w, X0 := fun b => (∃ id, ρ id = some b) ∨ M0.m b, Im0 := Im, G := fun g M w => ∃ ys s, g = encG ys s ∧ AV.namesL allB (ys.map .tup) = false ∧ G ys s M w, N := fn.ntmps, rd := none, pin := fun _ => none, J0 := Im, R0 := fun id b => ρ id = some b }
  have H : Holds (spZ P f fn.ntmps l bad) C := by
    refine ⟨rfl, ?_, ?_, hmo, fun _ _ hp => (by cases hp), fun _ hp => (by cases hp), h4, fun _ => rfl, fun id b _ hb => ?_, hgk, fun b hb => ⟨fun hx => ?_, hinv.low b (hgk.im hb)⟩, (fun h => by cases h)⟩
    rotate_left 2
    · cases hs : stO l0 id with
      | none => exact absurd hs (hinv.live id b hb)
      | some k => exact List.all_eq_true.1 hold _ (stO_mem hs)
    · rcases hx with ⟨id, hid⟩ | hx
      · exact hinv.apart id b hid (hgk.im hb)
      · exact (hM b hx).2.2 (hgk.im hb)
    · rintro g M w w' ⟨ys, s, e, hn, hg⟩ hb hs ho ht hout
      exact ⟨ys, s, e, hn, hG ys s (.v undef) M w w' hg hb hs ho ht hout⟩
    · intro aso g K hY w1 Im1 M1 vs1 hI hM1 hJ1 hL hvs ⟨ys, s, e, hn, hg⟩ n
      subst e
      cases s with
      | true => exact hY.elim
      | false =>
        cases ys with
        | nil => exact hY.elim
        | cons x rest =>
          obtain ⟨rfl, hK1, hK2⟩ := hY
          obtain ⟨hnx, hnr⟩ := namesL_cons hn
          obtain ⟨fn', tmps, assign, body, hr, hround⟩ := hans aso rest M1 w1 Im1 vs1 hg hI hM1 hJ1 hL hvs n
          refine ⟨fn', tmps, assign, body, hr, hround.mono ?_⟩
          rintro e w' ⟨b, M', rfl, hg', hm, hj, hx⟩
          cases b with
          | true => exact ⟨_, .tup (rest.map .tup), M', rfl, ⟨true, rfl⟩, hK1, fun p => names_all (a := .tup (rest.map .tup)) hnr p, ⟨rest, false, rfl, hnr, hg'⟩, hm, hj, hx⟩
          | false => exact ⟨_, .any, M', rfl, ⟨false, rfl⟩, hK2, fun p => rfl, ⟨rest, true, rfl, hnr, hg'⟩, hm, hj, hx⟩
  have hyl : Reps w ρ Im (.yld l :: args) (.func (.yield l) #[] #[] :: vs) := by
    refine ⟨by simp [hargs.1], fun j c y hc hy => ?_⟩
    cases j with
    | zero => simp at hc hy; subst hc; subst hy; exact .im _ _ (.yld l)
    | succ j => exact hargs.2 j c y (by simpa using hc) (by simpa using hy)
  have henv : EnvRep w ρ Im (upd (initE (.yld l :: args)) fn.ntmps (encG xs false)) ((.func (.yield l) #[] #[] :: vs).toArray ++ Array.replicate (fn.ntmps - (.func (.yield l) #[] #[] :: vs).toArray.size) undef) := fun t y hy => by
    have hlt := (Array.getElem?_eq_some_iff.1 hy).1
    have hsz : ((Value.func (.yield l) #[] #[] :: vs).toArray ++ Array.replicate (fn.ntmps - (.func (.yield l) #[] #[] :: vs).toArray.size) undef).size = fn.ntmps := by
      have := hargs.1; simp; omega
    rw [hsz] at hlt
    simp only [upd]; rw [if_neg (by omega)]
    exact env_init hyl t y hy
  refine body_sound (E0 := upd (initE (.yld l :: args)) fn.ntmps (encG xs false)) (S := spZ P f fn.ntmps l bad) (C := C) (vs := .func (.yield l) #[] #[] :: vs) (σ0 := stO l0) (ρ0 := ρ) (Im0 := Im) (M0 := M0) H rfl hf hb rfl h1 h2 ?_ (h l) fun E σ' tm w' ρ' I M us ys hk hrest hr => ?_
  · refine ⟨hinv, henv, (?_ : _ = fn.ntmps), Ext.refl _ _, fun i b hi => .inl ⟨.inl ⟨i, hi⟩, hi⟩, fun b hb => .inl hb, fun p => ?_, ?_, hJ, fun b hb => ⟨(hM b hb).1, (hM b hb).2.1, (hM b hb).2.2, .inl (.inr hb)⟩, fun l r hr => (by cases hr), .nil, fun d hd => (by cases hd), fun b hb => ?_, fun id b hb => (by cases hb), fun b hb => hb⟩
    · have := hargs.1; simp; omega
    · show AV.namesB p (upd (initE (.yld l :: args)) fn.ntmps (encG xs false) fn.ntmps) = false
      rw [upd_same]; exact names_all (a := .tup (xs.map .tup)) hxs p
    · show ∃ ys s, upd (initE (.yld l :: args)) fn.ntmps (encG xs false) fn.ntmps = encG ys s ∧ _
      rw [upd_same]; exact ⟨xs, false, rfl, hxs, hG0⟩
    · rcases hb with ⟨r, hr⟩ | hd
      · cases hr
      · cases hd
  · obtain ⟨zs, s, e, _, hg⟩ := hrest.g
    refine ⟨_, zs, s, M, rfl, ?_, hg, hrest.ext⟩
    have e : E fn.ntmps = encG zs s := e
    rw [e] at hk
    cases s with
    | true => exact .inr rfl
    | false =>
      rcases hk with hk | hk
      · refine .inl ?_
        simp only [encG, AV.tup.injEq, List.map_eq_nil_iff] at hk; exact hk
      · cases hk
theorem freeze_reg {S : Sp} (hY : YMono S) {id : Nat} {ops : Array Oper} {draw : Bool} {Q : Exit → Env → Store → Prop} {E : Env} {σ : Store} (F : List Nat) (h : regC S draw ops (Q .normal) (frE (inI F) σ E) (frS (inI F) σ))
    (hF : (F.all fun i => !S.old i && !S.pin i) = true := by kernel_rfl) (hfit : codeQ S.P S.N noBad (.region id ops draw) = true := by kernel_rfl) : semC S (.region id ops draw) Q E σ := by
  simp only [List.all_eq_true, Bool.and_eq_true, Bool.not_eq_true'] at hF
  have hin : ∀ {id}, inI F id = true → id ∈ F := fun h => List.contains_iff_mem.1 h
  have no : ∀ {id} {b : Bool}, b = true → (inI F id = true → b = false) → inI F id = false := fun {id b} hb hh => by
    cases hi : inI F id with
    | false => rfl
    | true => have := hh hi; rw [hb] at this; cases this
  exact freeze_mk hY F h (fun id hid => no hid fun hi => (hF id (hin hi)).2) (fun id hid => no hid fun hi => (hF id (hin hi)).1) hfit
theorem op_mk {S : Sp} [hY : Plain S] {dst : Option Nat} {op : Op} {ty : TypeId} {K : Env → Store → Prop} {E : Env} {σ : Store} (h : aopC S true true dst op ty K K E σ)
    (hfit : (dst.all (decide <| · < S.N) && Op.low S.N op && cls S.P op ty != 9) = true := by kernel_rfl) : semD S dst op ty K E σ := by
  intro pos after guard C H n a w Kc Q ⟨ρ, Im, M, hw⟩ hKc
  exact aop_sound H hw (o := ⟨dst, op, ty, pos, after, guard⟩) hfit true true (fun h => by cases h) (aopC_of hY.mono (fun _ _ h => h) (fun _ _ h => h) h) (fun _ _ _ _ => hKc _ _ _ _) (fun _ _ _ _ => hKc _ _ _ _)
theorem frz_free {c : AV} (h : AV.namesB allB c = false) (L p : Nat → Bool) (σ : Store) : frz L p σ c = c := by unfold frz; rw [if_pos (names_all h _)]
@[go_sem] theorem frz_yld (L p : Nat → Bool) (σ : Store) (l : Nat) : frz L p σ (.yld l) = .yld l := rfl
end Go.Vai
namespace Go.Vai
open Go.RowKit
def nnB : AV → Bool
  | .new .. => false
  | .nptr .. => false
  | _ => true
theorem R1_nn {w : World} {Im : Nat → Prop} {r : AV} {y : Value} {ob : Option Nat} (h : nnB r = true) : R1 w Im r y ob ↔ (ob = none ∧ IRep w Im r y) := by
  cases r <;> first | exact Iff.rfl | cases h
theorem RL_if {w : World} {Im : Nat → Prop} : ∀ {rs ss : List AV} {ys : List Value} {obs : List (Option Nat)}, (rs.all nnB) = true → (ss.all nnB) = true → asIfL rs ss → RL w Im rs ys obs → RL w Im ss ys obs
  | [], [], _, _, _, _, _, h => h
  | r :: rs, s :: ss, [], _, _, _, _, h => (h : False).elim
  | r :: rs, s :: ss, _ :: _, [], _, _, _, h => (h : False).elim
  | r :: rs, s :: ss, y :: ys, ob :: obs, h1, h2, h3, h => by
    simp only [List.all_cons, Bool.and_eq_true] at h1 h2
    obtain ⟨e1, e2⟩ := (R1_nn h1.1).1 h.1
    exact ⟨(R1_nn h2.1).2 ⟨e1, h3.1 _ _ _ e2⟩, RL_if h1.2 h2.2 h3.2 h.2⟩
  | [], _ :: _, _, _, _, _, h, _ => h.elim
  | _ :: _, [], _, _, _, _, h, _ => h.elim
theorem Ev.resL {P : Program} {f : FuncId} {args : List AV} {rs ss : List AV} (h : Ev P f args (.tup rs)) (h3 : asIfL rs ss) (h1 : (rs.all nnB) = true := by rfl) (h2 : (ss.all nnB) = true := by rfl) : Ev P f args (.tup ss) := by
  rintro xs r0 ⟨rfl, rfl⟩
  obtain ⟨a, b⟩ := h xs (.tup rs) ⟨rfl, rfl⟩
  refine ⟨a, fun w Im vs hlow hgk hv => (b w Im vs hlow hgk hv).mono fun e w' ⟨y, he, hx, Im1, g1, g2, ys, obs, g3, g4, g5⟩ => ⟨y, he, hx, Im1, g1, g2, ys, obs, g3, RL_if h1 h2 h3 g4, g5⟩⟩
end Go.Vai
namespace Go.Vai
open Go.RowKit
def stepsJ1 (x : Nat) (S : Sp) (ops : Array Oper) (J : (Nat → Bool) → Env → Store → Prop) : Nat → List Oper → Prop
  | _, [] => True
  | i, o :: l => (i ≠ x → ∀ D, D i = false → (∀ e ∈ o.after.toList, Region.binds .any e = true → D e.on = true) → ∀ E σ, J D E σ → opsC S false ops i [o] (J (insJ D i)) E σ) ∧ stepsJ1 x S ops J (i + 1) l
theorem stepsJ1_at {x : Nat} {S : Sp} {ops : Array Oper} {J : (Nat → Bool) → Env → Store → Prop} : ∀ {l : List Oper} {n i : Nat} {o : Oper}, stepsJ1 x S ops J n l → l[i]? = some o → n + i ≠ x →
    ∀ D, D (n + i) = false → (∀ e ∈ o.after.toList, Region.binds .any e = true → D e.on = true) → ∀ E σ, J D E σ → gopC S true true ops.toList o (J (insJ D (n + i))) (J (insJ D (n + i))) E σ
  | [], _, _, _, _, h, _ => by simp at h
  | o' :: l, n, i, o, hq, h, hx => by
    cases i with
    | zero => simp at h; subst h; exact hq.1 hx
    | succ i =>
      have := stepsJ1_at hq.2 (by simpa using h) (by omega)
      rwa [show n + 1 + i = n + (i + 1) from by omega] at this
theorem region_J1 {S : Sp} (hY : YMono S) {id : Nat} {ops : Array Oper} {Q : Exit → Env → Store → Prop} {E : Env} {σ : Store} (J : (Nat → Bool) → Env → Store → Prop)
    (x : Nat) (h0 : J (fun _ => false) E σ) (hsteps : stepsJ1 x S ops J 0 ops.toList)
    (hx : ∀ o, ops[x]? = some o → o.guard = none ∧ ∀ D, D x = false → (∀ e ∈ o.after.toList, Region.binds .any e = true → D e.on = true) → ∀ E σ, J D E σ → semV S o (J (insJ D x)) E σ) (hend : ∀ D E σ, (∀ i, i < ops.size → D i = true) → J D E σ → Q .normal E σ)
    (hfit : ops.toList.all (Oper.fits S.P S.N) = true := by kernel_rfl) (hedge : edgesQ 0 ops.toList = true := by kernel_rfl) : semC S (.region id ops true) Q E σ := by
  intro C H n R hR a w hs
  have hall : ∀ (i : Nat) (o : Oper), ops[i]? = some o → Oper.fits S.P S.N o = true := fun i o ho => List.all_eq_true.1 hfit o (Array.mem_toList_iff.2 (Array.mem_of_getElem? ho))
  have hlist : ∀ (i : Nat) (o : Oper), ops[i]? = some o → ops.toList[i]? = some o := fun i o ho => by rw [Array.getElem?_toList]; exact ho
  refine wpIn_region_any H.mo ?_
  have key : ∀ (fuel : Nat) (listed : Array Bool) (E : Env) (σ : Store) (a : Act) (w : World), listed.size = ops.size → (rem ops listed).length ≤ fuel →
      J (fun i => listed.getD i false) E σ → St C E σ a w → wpAnyIn (FW C.rdl) n S.P .any ops R fuel listed a w := by
    intro fuel
    have full : ∀ (listed : Array Bool), listed.size = ops.size → rem ops listed = [] → ∀ i, i < ops.size → listed.getD i false = true := fun listed hsz hr i hi => by
      cases hl : listed.getD i false with
      | true => rfl
      | false =>
        have : i ∈ rem ops listed := mem_rem.2 ⟨hi, by
          simp only [Array.getD_eq_getD_getElem?] at hl ⊢
          rw [Array.getElem?_eq_getElem (by omega)] at hl ⊢; exact hl⟩
        rw [hr] at this; simp at this
    induction fuel with
    | zero =>
      intro listed E σ a w hsz hle hv hs
      have h0 : rem ops listed = [] := List.eq_nil_of_length_eq_zero (by omega)
      refine ⟨?_, hR _ _ _ _ _ (hend _ _ _ (full listed hsz h0) hv) hs⟩
      cases hr : Region.ready .any ops listed with
      | nil => rfl
      | cons i l =>
        have hi : i ∈ Region.ready .any ops listed := by rw [hr]; simp
        obtain ⟨h1, o, ho, _⟩ := mem_ready.1 hi
        have : i ∈ rem ops listed := mem_rem.2 ⟨(Array.getElem?_eq_some_iff.1 ho).1, h1⟩
        rw [h0] at this; simp at this
    | succ fuel ih =>
      intro listed E σ a w hsz hle hv hs
      have getD_same : ∀ i, i < ops.size → listed.getD i true = listed.getD i false := fun i hi => by
        simp only [Array.getD_eq_getD_getElem?]; rw [Array.getElem?_eq_getElem (by omega)]; rfl
      refine ⟨fun hr0 => ?_, fun i hi => ?_⟩
      · have hr : rem ops listed = [] := by
          cases hr : rem ops listed with
          | nil => rfl
          | cons i l =>
            exfalso
            have hm : i ∈ rem ops listed := by rw [hr]; simp
            obtain ⟨hlt, hun⟩ := mem_rem.1 hm
            have : i ∈ Region.ready .any ops listed := mem_ready.2 ⟨hun, _, Array.getElem?_eq_getElem hlt, fun e he hb => by
              have hei := edgesQ_at hedge (hlist i _ (Array.getElem?_eq_getElem hlt)) e he hb
              cases hl : listed.getD e.on false with
              | true => rfl
              | false =>
                have hme : e.on ∈ rem ops listed := mem_rem.2 ⟨by omega, by rw [getD_same _ (by omega)]; exact hl⟩
                have hsort := rem_sorted (ops := ops) listed
                rw [hr] at hme hsort
                rcases List.mem_cons.1 hme with h | h
                · omega
                · have := (List.pairwise_cons.1 hsort).1 _ h; omega⟩
            rw [hr0] at this; simp at this
        exact hR _ _ _ _ _ (hend _ _ _ (full listed hsz hr) hv) hs
      · obtain ⟨hun, o, ho, hedges⟩ := mem_ready.1 hi
        have hlt : i < ops.size := (Array.getElem?_eq_some_iff.1 ho).1
        have hm : i ∈ rem ops listed := mem_rem.2 ⟨hlt, hun⟩
        obtain ⟨pre, post, hsplit⟩ := List.append_of_mem hm
        have hset := rem_set hsz hsplit
        have hD : (fun k => (listed.setIfInBounds i true).getD k false) = insJ (fun k => listed.getD k false) i := by
          funext k
          simp only [insJ, Array.getD_eq_getD_getElem?]
          by_cases hk : k = i
          · subst hk; simp [hsz, hlt]
          · rw [Array.getElem?_setIfInBounds_ne (Ne.symm hk)]; simp [hk]
        have next : ∀ E' σ' a' w', J (insJ (fun k => listed.getD k false) i) E' σ' → St C E' σ' a' w' → wpAnyIn (FW C.rdl) n S.P .any ops R fuel (listed.setIfInBounds i true) a' w' := fun E' σ' a' w' h1 h3 => by
          refine ih (listed.setIfInBounds i true) E' σ' a' w' (by simpa using hsz) ?_ (by rw [hD]; exact h1) h3
          rw [hset]; rw [hsplit] at hle; simp at hle ⊢; omega
        by_cases hix : i = x
        · subst hix
          obtain ⟨hgn, hs1⟩ := hx o ho
          have hs2 := hs1 (fun k => listed.getD k false) (by rw [← getD_same i hlt]; exact hun) (fun e he hb => hedges e (Array.mem_toList_iff.1 he) hb) E σ hv
          refine wpTurn_in ho ?_
          unfold wpTurn
          rw [if_pos (by simp [Region.wanted, hgn])]
          exact hs2 C H n a w _ _ hs fun E' σ' a' w' h1 h2 => next E' σ' a' w' h1 h2
        have hstep := stepsJ1_at hsteps (hlist i o ho) (by omega) (fun k => listed.getD k false) (by rw [Nat.zero_add, ← getD_same i hlt]; exact hun) (fun e he hb => hedges e (Array.mem_toList_iff.1 he) hb) E σ hv
        rw [Nat.zero_add] at hstep
        have hg := gopC_of hY (K' := J (insJ (fun k => listed.getD k false) i)) (Kb' := J (insJ (fun k => listed.getD k false) i)) (fun _ _ h => h) (fun _ _ h => h) hstep
        obtain ⟨ρ, Im, M, hw⟩ := hs
        exact wpTurn_in ho (gop_sound (Kc := wpAnyIn (FW C.rdl) n S.P .any ops R fuel (listed.setIfInBounds i true)) H hw hall (hall i o ho) true true (fun h => by cases h) hg (fun E' σ' a' w' h1 h2 => next E' σ' a' w' h1 h2) fun E' σ' a' w' h1 h2 => next E' σ' a' w' h1 h2)
  exact key ops.size _ E σ a _ (by simp) (by unfold rem; exact Nat.le_trans (List.length_filter_le _ _) (by simp)) (by
    have : (fun i => (Array.replicate ops.size false).getD i false) = fun _ => false := by
      funext i; simp only [Array.getD_eq_getD_getElem?, Array.getElem?_replicate]; split <;> rfl
    rw [this]; exact h0) (hs.drew H.G (w.drawn + 1))
end Go.Vai
namespace Go.Vai
open Go.RowKit
theorem reg_mk {S : Sp} (hY : YMono S) {id : Nat} {ops : Array Oper} {draw : Bool} {Q : Exit → Env → Store → Prop} {E : Env} {σ : Store} (h : regC S draw ops (Q .normal) E σ)
    (hfit : codeQ S.P S.N noBad (.region id ops draw) = true := by kernel_rfl) : semC S (.region id ops draw) Q E σ := by
  intro C H n R hR a w ⟨ρ, Im, M, hw⟩
  have hok := codeOK_of _ hfit
  simp only [codeOK, Bool.and_eq_true, Bool.or_eq_true, Bool.not_eq_true', Bool.or_false, Bool.false_or, noBad, Bool.false_eq_true, false_or] at hok
  have hall : ∀ (i : Nat) (o : Oper), ops[i]? = some o → Oper.fits S.P S.N o = true := fun i o ho => List.all_eq_true.1 hok.1 o (Array.mem_toList_iff.2 (Array.mem_of_getElem? ho))
  unfold regC at h
  rw [struckC_eq] at h
  have hv := struck_mono (fun _ _ hk => opsC_of hY _ 0 (fun _ _ h => h) hk) _ _ h
  have hs : St C E σ a w := ⟨_, _, _, hw⟩
  cases draw with
  | false =>
    simp only [struck, Bool.false_eq_true, if_false] at hv
    refine wpIn_region ?_
    have := awpOps_sound H hall (n := n) (Q := R) (fun E σ a w hk hs => hR .normal E σ a w hk hs) ops.toList 0 _ _ a w (by simp) hv hs
    rw [Array.length_toList, ← List.range_eq_range'] at this
    exact this
  | true => exact draw_sound H ops hok.1 (by simpa using hok.2) n (Q .normal) R _ _ a w (fun E σ a w hk hs => hR .normal E σ a w hk hs) hv hs id
end Go.Vai
namespace Go.Vai
open Go.RowKit
mutual
def AV.rn (π : Nat → Nat) : AV → AV
  | .own a s i n => .own (π a) s i n
  | .ptr a s i j => .ptr (π a) s i j
  | .mref a => .mref (π a)
  | .agg cs => .agg (AV.rnL π cs)
  | .tup cs => .tup (AV.rnL π cs)
  | .clo g cs => .clo g (AV.rnL π cs)
  | a => a
def AV.rnL (π : Nat → Nat) : List AV → List AV
  | [] => []
  | c :: cs => AV.rn π c :: AV.rnL π cs
end
theorem rnL_eq (π : Nat → Nat) : ∀ cs : List AV, AV.rnL π cs = cs.map (AV.rn π)
  | [] => rfl
  | c :: cs => by rw [AV.rnL, rnL_eq π cs]; rfl
theorem rn_cells (π : Nat → Nat) (e : AV) : (AV.rn π e).cells = e.cells.map (AV.rn π) := by
  cases e <;> simp [AV.rn, AV.cells, rnL_eq]
mutual
theorem AV.rn_free (π : Nat → Nat) : ∀ a : AV, AV.namesB allB a = false → AV.rn π a = a
  | .own .., h => by simp [AV.namesB, allB] at h
  | .ptr .., h => by simp [AV.namesB, allB] at h
  | .mref .., h => by simp [AV.namesB, allB] at h
  | .agg cs, h => by rw [AV.rn, AV.rnL_free π cs h]
  | .tup cs, h => by rw [AV.rn, AV.rnL_free π cs h]
  | .clo g cs, h => by rw [AV.rn, AV.rnL_free π cs h]
  | .any, _ => rfl
  | .v .., _ => rfl
  | .sl .., _ => rfl
  | .cut .., _ => rfl
  | .pt .., _ => rfl
  | .new .., _ => rfl
  | .nptr .., _ => rfl
  | .yld .., _ => rfl
  | .mp .., _ => rfl
theorem AV.rnL_free (π : Nat → Nat) : ∀ cs : List AV, AV.namesL allB cs = false → AV.rnL π cs = cs
  | [], _ => rfl
  | c :: cs, h => by
    simp only [AV.namesL, Bool.or_eq_false_iff] at h
    rw [AV.rnL, AV.rn_free π c h.1, AV.rnL_free π cs h.2]
end
def Blk.rn (π : Nat → Nat) (k : Blk) : Blk := ⟨k.e, k.sz, AV.rnL π k.es⟩
section
variable {w : World} {ρ : Nat → Option Nat} {Im : Nat → Prop} {π : Nat → Nat}
theorem IRep.rn {a : AV} {y : Value} (h : IRep w Im a y) : IRep w Im (AV.rn π a) y := by
  induction h with
  | any y => exact .any y
  | v x => exact .v x
  | agg cs ys hl h1 _ ih =>
    rw [AV.rn, rnL_eq]
    refine .agg _ ys (by simpa using hl) h1 fun j c y hc hy => ?_
    rw [List.getElem?_map] at hc
    obtain ⟨c0, h0, rfl⟩ := Option.map_eq_some_iff.1 hc
    exact ih j c0 y h0 hy
  | slnil sz a cap => exact .slnil ..
  | cut sz es a h ih => exact .cut sz es a h
  | sl sz es b o cap f hIm hcap hsz hcc hh ih => exact .sl sz es b o cap f hIm hcap hsz hcc hh
  | pt e j b o f hIm hcc hh ih => exact .pt e j b o f hIm hcc hh
  | tup vs ys hl _ ih =>
    rw [AV.rn, rnL_eq]
    refine .tup _ ys (by simpa using hl) fun j c y hc hy => ?_
    rw [List.getElem?_map] at hc
    obtain ⟨c0, h0, rfl⟩ := Option.map_eq_some_iff.1 hc
    exact ih j c0 y h0 hy
  | clo g caps ys hl _ ih =>
    rw [AV.rn, rnL_eq]
    refine .clo g _ ys (by simpa using hl) fun j c y hc hy => ?_
    rw [List.getElem?_map] at hc
    obtain ⟨c0, h0, rfl⟩ := Option.map_eq_some_iff.1 hc
    exact ih j c0 y h0 hy
  | yld l => exact .yld l
  | mpnil => exact .mpnil
  | mp es b ents clk f hIm hbb hl hes hh ih => exact .mp es b ents clk f hIm hbb hl hes hh
theorem Rep.rn (hπ : ∀ i, π (π i) = i) {a : AV} {y : Value} (h : Rep w ρ Im a y) : Rep w (fun i => ρ (π i)) Im (AV.rn π a) y := by
  induction h with
  | im a y h => exact .im _ y h.rn
  | agg cs ys hl h1 _ ih =>
    rw [AV.rn, rnL_eq]
    refine .agg _ ys (by simpa using hl) h1 fun j c y hc hy => ?_
    rw [List.getElem?_map] at hc
    obtain ⟨c0, h0, rfl⟩ := Option.map_eq_some_iff.1 hc
    exact ih j c0 y h0 hy
  | tup cs ys hl _ ih =>
    rw [AV.rn, rnL_eq]
    refine .tup _ ys (by simpa using hl) fun j c y hc hy => ?_
    rw [List.getElem?_map] at hc
    obtain ⟨c0, h0, rfl⟩ := Option.map_eq_some_iff.1 hc
    exact ih j c0 y h0 hy
  | clo g cs ys hl _ ih =>
    rw [AV.rn, rnL_eq]
    refine .clo g _ ys (by simpa using hl) fun j c y hc hy => ?_
    rw [List.getElem?_map] at hc
    obtain ⟨c0, h0, rfl⟩ := Option.map_eq_some_iff.1 hc
    exact ih j c0 y h0 hy
  | ownNil id sz h => exact .ownNil _ sz (by simp only [hπ]; exact h)
  | own id sz n b cap cur e hr hn hcap hb hsz hz => exact .own _ sz n b cap cur e (by simp only [hπ]; exact hr) hn hcap hb hsz hz
  | ownAt id sz i n b cap a hi hr hn ha hz => exact .ownAt _ sz i n b cap a hi (by simp only [hπ]; exact hr) hn ha hz
  | ptr id sz i j b hr hz => exact .ptr _ sz i j b (by simp only [hπ]; exact hr) hz
  | mref id b hr => exact .mref _ b (by simp only [hπ]; exact hr)
theorem Inv.rn {σ : Store} (hπ : ∀ i, π (π i) = i) (h : Inv w ρ Im σ) : Inv w (fun i => ρ (π i)) Im (fun i => (σ (π i)).map (Blk.rn π)) := by
  refine ⟨fun id k hk hr => ?_, fun id k b hk hr hz => ?_, fun id k b hk hr hz => ?_, fun i j b h1 h2 => ?_, fun id b hr hs => ?_, fun id b hr => h.apart _ b hr, h.low⟩
  · obtain ⟨k0, h0, rfl⟩ := Option.map_eq_some_iff.1 hk
    have := h.nil _ k0 h0 hr
    simp [Blk.rn, this, AV.rnL]
  · obtain ⟨k0, h0, rfl⟩ := Option.map_eq_some_iff.1 hk
    obtain ⟨ents, clk, hb, hl, hc⟩ := h.map _ k0 b h0 hr hz
    refine ⟨ents, clk, hb, by simpa [Blk.rn, rnL_eq] using hl, fun i m hm => ?_⟩
    obtain ⟨v, hv, hr'⟩ := hc i m hm
    refine ⟨AV.rn π v, ?_, hr'.rn hπ⟩
    simp only [Blk.rn, rnL_eq, List.getElem?_map, hv, Option.map_some, AV.rn, AV.rnL]
    try rfl
  · obtain ⟨k0, h0, rfl⟩ := Option.map_eq_some_iff.1 hk
    obtain ⟨cur, hb, hl, hs, hc⟩ := h.blk _ k0 b h0 hr hz
    refine ⟨cur, hb, fun e he => ?_, by simpa [Blk.rn, rnL_eq] using hs, fun i e j c he hc' => ?_⟩
    · simp only [Blk.rn, rnL_eq] at he
      obtain ⟨e0, h1, rfl⟩ := List.mem_map.1 he
      rw [rn_cells, List.length_map]; exact hl e0 h1
    · simp only [Blk.rn, rnL_eq, List.getElem?_map] at he
      obtain ⟨e0, h1, rfl⟩ := Option.map_eq_some_iff.1 he
      rw [rn_cells, List.getElem?_map] at hc'
      obtain ⟨c0, h2, rfl⟩ := Option.map_eq_some_iff.1 hc'
      obtain ⟨x, hx, h3, hr'⟩ := hc i e0 j c0 h1 h2
      exact ⟨x, hx, h3, hr'.rn hπ⟩
  · have := h.inj _ _ b h1 h2
    have e := congrArg π this
    rwa [hπ, hπ] at e
  · simp only [Option.map_eq_none_iff] at hs
    exact h.live _ b hr hs
end
theorem Wit.rn {S : Sp} {C : Fx} {E : Env} {σ : Store} {a : Act} {w : World} {ρ : Nat → Option Nat} {Im : Nat → Prop} {M : Str} (H : Holds S C) (h : Wit C E σ a w ρ Im M) (π : Nat → Nat) (hπ : ∀ i, π (π i) = i) (hm : ∀ i, π i ≠ i → S.old i = false ∧ S.pin i = false) :
    Wit C (fun t => AV.rn π (E t)) (fun i => (σ (π i)).map (Blk.rn π)) a w (fun i => ρ (π i)) Im M := by
  have hfree : AV.rn π (E C.N) = E C.N := AV.rn_free π _ (h.gh allB)
  refine ⟨h.inv.rn hπ, fun t y hy => (h.env t y hy).rn hπ, h.size, h.ext, fun id b hb => ?_, h.im, fun p => ?_, ?_, h.js, fun b hb => ?_, h.rd, h.nodup, h.df, fun b hb => ?_, fun id ob hp => ?_, h.j0⟩
  · rcases h.rng _ b hb with ⟨h1, h2⟩ | h1
    · have ho := H.fz _ b h1 h2
      have hid : π id = id := by
        by_cases e : π (π id) = π id
        · rwa [hπ, eq_comm] at e
        · have := (hm _ e).1; rw [ho] at this; cases this
      rw [hid] at h2
      exact .inl ⟨h1, h2⟩
    · exact .inr h1
  · show AV.namesB p (AV.rn π (E C.N)) = false
    rw [hfree]; exact h.gh p
  · show C.G (AV.rn π (E C.N)) M w
    rw [hfree]; exact h.g
  · obtain ⟨h1, h2, h3, h4⟩ := h.ms b hb
    exact ⟨h1, fun id => h2 _, h3, h4⟩
  · obtain ⟨h1, h2, h3⟩ := h.bk b hb
    exact ⟨fun id => h1 _, h2, h3⟩
  · have hpn := H.pin id ob hp
    have hid : π id = id := by
      by_cases e : π id = id
      · exact e
      · have := (hm _ e).2; rw [hpn] at this; cases this
    show ρ (π id) = ob
    rw [hid]; exact h.pin id ob hp
def swp (x y i : Nat) : Nat := if i = x then y else if i = y then x else i
@[go_sem] theorem swp_eq (x y i : Nat) : swp x y i = if i = x then y else if i = y then x else i := rfl
@[go_sem] theorem frz_agg (L p : Nat → Bool) (σ : Store) (cs : List AV) : frz L p σ (.agg cs) = if AV.namesB (notI L) (.agg cs) = false then .agg cs else res (killS p (killS L σ)) (((AV.agg cs).kill L).kill p) := rfl
section
variable (π : Nat → Nat)
@[go_sem] theorem rn_v (x : Value) : AV.rn π (.v x) = .v x := rfl
@[go_sem] theorem rn_sl (s : Nat) (es : List AV) : AV.rn π (.sl s es) = .sl s es := rfl
@[go_sem] theorem rn_pt (e : AV) (j : Nat) : AV.rn π (.pt e j) = .pt e j := rfl
@[go_sem] theorem rn_any : AV.rn π .any = .any := rfl
@[go_sem] theorem rn_own (a s i n : Nat) : AV.rn π (.own a s i n) = .own (π a) s i n := rfl
@[go_sem] theorem rn_ptr (a s i j : Nat) : AV.rn π (.ptr a s i j) = .ptr (π a) s i j := rfl
@[go_sem] theorem rn_agg (cs : List AV) : AV.rn π (.agg cs) = .agg (AV.rnL π cs) := rfl
@[go_sem] theorem rnL_nil : AV.rnL π [] = [] := rfl
@[go_sem] theorem rnL_cons (c : AV) (cs : List AV) : AV.rnL π (c :: cs) = AV.rn π c :: AV.rnL π cs := rfl
@[go_sem] theorem rn_blk (e : TypeId) (s : Nat) (es : List AV) : Blk.rn π ⟨e, s, es⟩ = ⟨e, s, AV.rnL π es⟩ := rfl
end
end Go.Vai
namespace Go.Vai
def AV.asR (a b : AV) : Prop := ∀ (w : World) (ρ : Nat → Option Nat) (Im : Nat → Prop) (y : Value), Rep w ρ Im a y → Rep w ρ Im b y
theorem asR_nil (s : Nat) : (AV.v (.slice none 0 0)).asR (.sl s []) := fun _ _ _ _ h => by
  cases h with
  | im _ _ h => cases h; exact .im _ _ (.slnil ..)
def asRL : List AV → List AV → Prop
  | [], [] => True
  | a :: xs, b :: bs => a.asR b ∧ asRL xs bs
  | _, _ => False
theorem asRL_at : ∀ {xs bs : List AV}, asRL xs bs → xs.length = bs.length ∧ ∀ (j : Nat) (c c' : AV), xs[j]? = some c → bs[j]? = some c' → c.asR c'
  | [], [], _ => ⟨rfl, fun _ _ _ h => by simp at h⟩
  | a :: xs, b :: bs, ⟨h1, h2⟩ => by
    have ih := asRL_at h2
    refine ⟨by simp [ih.1], fun j c c' hc hc' => ?_⟩
    cases j with
    | zero => simp at hc hc'; subst hc hc'; exact h1
    | succ j => exact ih.2 j c c' (by simpa using hc) (by simpa using hc')
def asRB : List AV → List AV → Prop
  | [], [] => True
  | a :: xs, b :: bs => asRL a.cells b.cells ∧ asRB xs bs
  | _, _ => False
theorem asRB_at : ∀ {xs bs : List AV}, asRB xs bs → xs.length = bs.length ∧ ∀ (j : Nat) (c c' : AV), xs[j]? = some c → bs[j]? = some c' → asRL c.cells c'.cells
  | [], [], _ => ⟨rfl, fun _ _ _ h => by simp at h⟩
  | a :: xs, b :: bs, ⟨h1, h2⟩ => by
    have ih := asRB_at h2
    refine ⟨by simp [ih.1], fun j c c' hc hc' => ?_⟩
    cases j with
    | zero => simp at hc hc'; subst hc hc'; exact h1
    | succ j => exact ih.2 j c c' (by simpa using hc) (by simpa using hc')
theorem asif_C {S : Sp} {c0 : Code} {Q : Exit → Env → Store → Prop} {E : Env} {σ : Store} (id : Nat) {k : Blk} (es : List AV) (hk : σ id = some k) (hz : k.sz ≠ 0) (hes : asRB k.es es) (h : semC S c0 Q E (updS σ id ⟨k.e, k.sz, es⟩)) : semC S c0 Q E σ := by
  obtain ⟨hl, hat⟩ := asRB_at hes
  refine fun C H n R hR a w ⟨ρ, Im, M, hw⟩ => h C H n R hR a w ⟨ρ, Im, M, ⟨?_, hw.env, hw.size, hw.ext, hw.rng, hw.im, hw.gh, hw.g, hw.js, hw.ms, hw.rd, hw.nodup, hw.df, hw.bk, hw.pin, hw.j0⟩⟩
  have hi := hw.inv
  refine ⟨fun id' k' hk' hr => ?_, fun id' k' b hk' hr h0 => ?_, fun id' k' b hk' hr h0 => ?_, hi.inj, fun id' b hr => ?_, hi.apart, hi.low⟩
  · by_cases e : id' = id
    · subst e
      rw [updS_same] at hk'; cases hk'
      have := hi.nil _ k hk hr
      rw [this] at hl
      exact List.eq_nil_of_length_eq_zero hl.symm
    · rw [updS_ne _ _ _ _ e] at hk'; exact hi.nil _ _ hk' hr
  · by_cases e : id' = id
    · subst e
      rw [updS_same] at hk'; cases hk'
      exact (hz h0).elim
    · rw [updS_ne _ _ _ _ e] at hk'; exact hi.map _ _ _ hk' hr h0
  · by_cases e : id' = id
    · subst e
      rw [updS_same] at hk'; cases hk'
      obtain ⟨cur, h1, h2, h3, h4⟩ := hi.blk _ k b hk hr hz
      refine ⟨cur, h1, fun e' he' => ?_, ?_, fun i e' j c' he' hc' => ?_⟩
      · obtain ⟨i, hi', rfl⟩ := List.mem_iff_getElem.1 he'
        have hi2 : i < k.es.length := by rw [hl]; exact hi'
        have := (asRL_at (hat i _ _ (List.getElem?_eq_getElem hi2) (List.getElem?_eq_getElem hi'))).1
        rw [← this]
        exact h2 _ (List.getElem_mem hi2)
      · show es.length * k.sz ≤ _
        rw [← hl]; exact h3
      · have he2 : es[i]? = some e' := he'
        have hi' := (List.getElem?_eq_some_iff.1 he2).1
        have hi2 : i < k.es.length := by rw [hl]; exact hi'
        have hcs := asRL_at (hat i _ _ (List.getElem?_eq_getElem hi2) he2)
        have hj := (List.getElem?_eq_some_iff.1 hc').1
        have hj2 : j < (k.es[i]).cells.length := by rw [hcs.1]; exact hj
        obtain ⟨x, g1, g2, g3⟩ := h4 i _ j _ (List.getElem?_eq_getElem hi2) (List.getElem?_eq_getElem hj2)
        exact ⟨x, g1, g2, hcs.2 j _ _ (List.getElem?_eq_getElem hj2) hc' _ _ _ _ g3⟩
    · rw [updS_ne _ _ _ _ e] at hk'; exact hi.blk _ _ _ hk' hr h0
  · by_cases e : id' = id
    · subst e; rw [updS_same]; simp
    · rw [updS_ne _ _ _ _ e]; exact hi.live _ _ hr
end Go.Vai
namespace Go.Vai
def depK (D : Nat → Bool) : List Edge → Prop
  | [] => True
  | e :: l => (Region.binds .any e = true → D e.on = true) ∧ depK D l
theorem depK_of {D : Nat → Bool} : ∀ {l : List Edge}, (∀ e ∈ l, Region.binds .any e = true → D e.on = true) → depK D l
  | [], _ => trivial
  | e :: l, h => ⟨h e (by simp), depK_of fun x hx => h x (by simp [hx])⟩
def stepsK (S : Sp) (ops : Array Oper) (J : (Nat → Bool) → Env → Store → Prop) : Nat → List Oper → Prop
  | _, [] => True
  | i, o :: l => (∀ D E σ, J D E σ → D i = false ∧ depK D o.after.toList → opsC S false ops i [o] (J (insJ D i)) E σ) ∧ stepsK S ops J (i + 1) l
theorem stepsJ_of {S : Sp} {ops : Array Oper} {J : (Nat → Bool) → Env → Store → Prop} : ∀ {l : List Oper} {i : Nat}, stepsK S ops J i l → stepsJ S ops J i l
  | [], _, _ => trivial
  | _ :: _, _, ⟨h1, h2⟩ => ⟨fun D hD hd E σ hJ => h1 D E σ hJ ⟨hD, depK_of hd⟩, stepsJ_of h2⟩
theorem region_K {S : Sp} [hY : Plain S] {id : Nat} {ops : Array Oper} {Q : Exit → Env → Store → Prop} {E : Env} {σ : Store} (J : (Nat → Bool) → Env → Store → Prop)
    (h0 : J (fun _ => false) E σ) (hsteps : stepsK S ops J 0 ops.toList) (hend : ∀ D E σ, (∀ i, i < ops.size → D i = true) → J D E σ → Q .normal E σ)
    (hfit : ops.toList.all (Oper.fits S.P S.N) = true := by kernel_rfl) (hedge : edgesQ 0 ops.toList = true := by kernel_rfl) : semC S (.region id ops true) Q E σ :=
  region_J hY.mono J h0 (stepsJ_of hsteps) hend hfit hedge
theorem cK {D : Nat → Bool} {a b : Nat} (h : D a = true → D b = true) : D b = false → D a = false := fun h1 => by
  cases e : D a with
  | false => rfl
  | true => rw [h e] at h1; cases h1
end Go.Vai
namespace Go.Vai
open Go.RowKit
section
variable {S : Sp} {C : Fx} {E : Env} {σ : Store} {a : Act} {w : World} {ρ : Nat → Option Nat} {Im : Nat → Prop} {M : Str}
theorem Wit.ghost (h : Wit C E σ a w ρ Im M) {w' : World} {r : Nat} {j : Nat → Prop} {g v : AV} {y : Value} {d : Nat} (hd : d < C.N) (hs : w.heap.size ≤ w'.heap.size) (hrs : r < w'.heap.size)
    (hos : w'.os = w.os) (ht : w'.tape = w.tape) (ho : w'.output = w.output) (hk : ∀ k, k < w.heap.size → k ≠ r → w'.heap[k]? = w.heap[k]?) (hr : M.m r ∨ w.heap.size ≤ r)
    (hv : Rep w' ρ Im v y) (hg : C.G g ⟨fun b => M.m b ∨ b = r, j⟩ w') (hn : ∀ p, AV.namesB p g = false) (hj : ∀ b, j b → Im b) :
    Wit C (upd (upd E d v) C.N g) σ (a.put (some d) y) w' ρ Im ⟨fun b => M.m b ∨ b = r, j⟩ := by
  have hown : ∀ id b, ρ id = some b → b < w.heap.size ∧ b ≠ r := fun id b hb => ⟨h.inv.lt hb, fun e => by
    subst e
    rcases hr with hr | hr
    · exact (h.ms _ hr).2.1 id hb
    · have := h.inv.lt hb; omega⟩
  have hIm : ∀ b, Im b → b < w.heap.size ∧ b ≠ r := fun b hb => ⟨h.inv.low b hb, fun e => by
    subst e
    rcases hr with hr | hr
    · exact (h.ms _ hr).2.2.1 hb
    · have := h.inv.low _ hb; omega⟩
  have hbk : ∀ b, C.book a b → b < w.heap.size ∧ b ≠ r := fun b hb => ⟨h.bklt hb, fun e => by
    subst e
    rcases hr with hr | hr
    · exact (h.bk _ hb).2.2 hr
    · have := h.bklt hb; omega⟩
  have rep : ∀ {c : AV} {z : Value}, Rep w ρ Im c z → Rep w' ρ Im c z := fun {c z} hc => Rep.mono (fun _ h => h) (fun b hb => hk b (hIm b hb).1 (hIm b hb).2) hc fun id _ => ⟨rfl, fun b hb cur e ⟨fr, h1, h2⟩ => ⟨cur, ⟨fr, by rw [hk b (hown id b hb).1 (hown id b hb).2]; exact h1, h2⟩, rfl⟩⟩
  have hrm : C.X0 r ∨ C.w0.heap.size ≤ r := by
    rcases hr with hr | hr
    · exact (h.ms _ hr).2.2.2
    · exact .inr (Nat.le_trans h.ext.size hr)
  have hput : (a.put (some d) y).defers = a.defers := put_defers ..
  have hb2 : ∀ b, C.book (a.put (some d) y) b → C.book a b := fun b hb => by unfold Fx.book at hb ⊢; rwa [hput] at hb
  refine ⟨h.inv.carry (fun k hkk => ?_) hs, fun t z hz => ?_, by rw [put_size]; exact h.size, ⟨hos.trans h.ext.os, ht.trans h.ext.tape, ho.trans h.ext.output, Nat.le_trans h.ext.size hs, fun k hk0 hx => ?_⟩, h.rng, h.im, fun p => ?_, ?_, hj, fun b hb => ?_, fun l r0 hl => ?_, by rw [hput]; exact h.nodup, fun D hD => ?_, fun b hb => ?_, h.pin, h.j0⟩
  · rcases hkk with ⟨id, hid⟩ | hkk
    · exact hk k (hown id k hid).1 (hown id k hid).2
    · exact hk k (hIm k hkk).1 (hIm k hkk).2
  · have hlt : t < C.N := by
      have h1 := (Array.getElem?_eq_some_iff.1 hz).1
      have h2 := h.size
      have h3 := put_size a (some d) y
      omega
    rw [upd_ne _ _ _ _ (by omega)]
    have henv : EnvRep w' ρ Im E a.tmps := fun t z hz => rep (h.env t z hz)
    exact henv.put (dst := some d) hv t z hz
  · have hne : k ≠ r := fun e => by subst e; rcases hrm with h1 | h1; exact hx h1; omega
    rw [hk k (Nat.lt_of_lt_of_le hk0 h.ext.size) hne]; exact h.ext.block k hk0 hx
  · rw [upd_same]; exact hn p
  · rw [upd_same]; exact hg
  · rcases hb with hb | rfl
    · obtain ⟨h1, h2, h3, h4⟩ := h.ms b hb
      exact ⟨by omega, h2, h3, h4⟩
    · exact ⟨hrs, fun id hid => (hown id b hid).2 rfl, fun hI => (hIm b hI).2 rfl, hrm⟩
  · have := hbk l (.inl ⟨r0, hl⟩)
    rw [hk l this.1 this.2]; exact h.rd l r0 hl
  · rw [hput] at hD
    obtain ⟨D', rfl, h1, h2⟩ := h.df D hD
    have := hbk D' (.inr hD)
    exact ⟨D', rfl, by rw [hk D' this.1 this.2]; exact h1, h2⟩
  · obtain ⟨h1, h2, h3⟩ := h.bk b (hb2 b hb)
    exact ⟨h1, h2, fun hh => by
      rcases hh with hh | hh
      · exact h3 hh
      · exact (hbk b (hb2 b hb)).2 hh⟩
end
theorem itA_inj {r r' : Nat} {ks ks' : List AV} {l l' : AV} (h : itA r ks l = itA r' ks' l') : r = r' ∧ ks = ks' ∧ l = l' := by
  unfold itA at h
  simp only [AV.tup.injEq, List.cons.injEq, AV.v.injEq, Value.pointer.injEq, Option.some.injEq, Addr.mk.injEq, AV.sl.injEq, and_true, true_and] at h
  exact h
theorem itA_names (p : Nat → Bool) (r : Nat) (ks : List AV) (k : Value) : AV.namesB p (itA r ks (.v k)) = false := rfl
theorem set_same (h : Array Obj) (r k : Nat) (o : Obj) (hk : k ≠ r) : (h.setIfInBounds r o)[k]? = h[k]? := by
  rw [Array.getElem?_setIfInBounds_ne (Ne.symm hk)]
theorem rangeMap_mk {S : Sp} {d : Nat} {t ty kt et : TypeId} {x : Operand} {K : Env → Store → Prop} {E : Env} {σ : Store} {l : List (Int × AV)} (hit : S.itf = true) (hx : ev E x = .mp (l.map entA)) (hne : l ≠ []) (ht : S.P.underlying t = some (.map kt et))
    (h : ∀ r, K (upd (upd E d (.v (.pointer (some ⟨r, 0, none⟩)))) S.N (itA r (l.map fun p => I p.1) .any)) σ)
    (hfit : (Nat.blt d S.N && Op.low S.N (.range t x)) = true := by kernel_rfl) : semD S (some d) (.range t x) ty K E σ := by
  intro pos after guard C H n a w Kc Q ⟨ρ, Im, M, hw⟩ hKc
  simp only [Bool.and_eq_true] at hfit
  have hd : d < C.N := by rw [← H.N]; exact Nat.le_of_ble_eq_true hfit.1
  have hrx := ev_rep hw.env (x := x) (by rw [hw.size, ← H.N]; exact low_of hfit.2 (by simp [Op.operands]))
  rw [hx] at hrx
  have : ∃ bm ents clk, a.eval x = .map (some bm) ∧ Im bm ∧ w.heap[bm]? = some (.map ents clk) ∧ Bn ents clk ∧ ents.toList.map (fun m => (AV.v m.key)) = l.map fun p => I p.1 := by
    generalize a.eval x = y at hrx
    generalize hes : l.map entA = es at hrx
    cases hrx with
    | im _ _ hrx =>
      cases hrx with
      | mpnil => simp at hes; exact (hne hes).elim
      | mp _ bm ents clk f hIm hb hl hk _ =>
        subst hes
        refine ⟨bm, ents, clk, rfl, hIm, hb, hl.2, List.ext_getElem? fun i => ?_⟩
        rw [List.getElem?_map, List.getElem?_map, Array.getElem?_toList]
        have hsz : l.length = ents.size := by simpa using hl.1
        by_cases hi : i < ents.size
        · have h1 := hk i ents[i] (Array.getElem?_eq_getElem hi)
          rw [List.getElem?_map] at h1
          rw [Array.getElem?_eq_getElem hi]
          cases hp : l[i]? with
          | none => rw [List.getElem?_eq_none_iff] at hp; omega
          | some p =>
            rw [hp] at h1
            simp only [Option.map_some, Option.some.injEq, AV.tup.injEq, List.cons.injEq, and_true] at h1
            simp only [Option.map_some, Option.some.injEq]
            exact h1.1.symm
        · rw [Array.getElem?_eq_none (by omega), List.getElem?_eq_none (by omega)]; rfl
  obtain ⟨bm, ents, clk, hxv, hIm, hb, hbn, hks⟩ := this
  have hlt := hw.inv.low bm hIm
  have hg := H.it hit
  have hw2 := hw.ghost (w' := w.alloc (.mapIter (some bm) clk #[] clk)) (r := w.heap.size) (j := fun b => b = bm) (g := itA w.heap.size (l.map fun p => I p.1) .any) (v := .v (.pointer (some ⟨w.heap.size, 0, none⟩))) (d := d) hd
    (by simp) (by simp) rfl rfl rfl (fun k hk _ => Below.heap_alloc w _ k hk) (.inr (Nat.le_refl _)) (.im _ _ (.v _)) (by
      rw [hg]
      intro r ks last e
      obtain ⟨rfl, rfl, rfl⟩ := itA_inj e
      refine ⟨.inr rfl, bm, #[], clk, ents, rfl, World.alloc_heap_new w _, by rw [Below.heap_alloc w _ bm hlt]; exact hb, hbn, ?_, fun k hk => ?_⟩
      · rw [← hks]; unfold leftE; rw [List.filter_eq_self.2 fun _ _ => by simp]
      · cases hk) (fun p => rfl) (fun b hb => hb ▸ hIm)
  have h := h w.heap.size
  rw [H.N] at h
  refine wpIn_value (fun _ e => by cases e) ?_ (hKc _ _ _ _ h ⟨_, _, _, hw2⟩)
  simp only [execOp, hxv, Instr.range, Sem.run_bind, run_underlying ht w, Result.andThen_ok, MapKept.run_getObj_map hb, Sem.run_pure, run_newObj_alloc]
theorem left_push {ents : Array MapEntry} {clk : Nat} (hb : Bn ents clk) (seen : Array Nat) {e : MapEntry} (he : e ∈ leftE ents seen) : ∃ l1 l2, leftE ents seen = l1 ++ e :: l2 ∧ leftE ents (seen.push e.born) = l1 ++ l2 := by
  obtain ⟨l1, l2, h⟩ := List.append_of_mem he
  refine ⟨l1, l2, h, ?_⟩
  have hnd : ((leftE ents seen).map (·.born)).Nodup := by
    have : (leftE ents seen).Sublist ents.toList := List.filter_sublist
    exact hb.1.sublist (this.map _)
  have h2 : leftE ents (seen.push e.born) = (leftE ents seen).filter fun x => x.born != e.born := by
    unfold leftE
    rw [List.filter_filter]
    refine List.filter_congr fun x _ => ?_
    rw [Array.contains_push]
    cases hs : seen.contains x.born <;> cases hx : (x.born == e.born) <;> simp [bne, hx]
  rw [h2, h]
  rw [h, List.map_append, List.map_cons, List.nodup_append, List.nodup_cons] at hnd
  obtain ⟨n1, ⟨n2, n3⟩, n4⟩ := hnd
  rw [List.filter_append, List.filter_cons_of_neg (by simp)]
  congr 1
  · exact List.filter_eq_self.2 fun x hx => by
      simp only [bne_iff_ne, ne_eq]
      exact n4 x.born (List.mem_map.2 ⟨x, hx, rfl⟩) e.born (by simp)
  · exact List.filter_eq_self.2 fun x hx => by
      simp only [bne_iff_ne, ne_eq]
      intro e'
      exact n2 (List.mem_map.2 ⟨x, hx, e'⟩)
theorem run_next_at {P : Program} (w : World) (ty : TypeId) (r bm clk : Nat) (seen : Array Nat) (ents : Array MapEntry) (hr : w.heap[r]? = some (.mapIter (some bm) clk seen clk)) (hb : w.heap[bm]? = some (.map ents clk)) (hbn : Bn ents clk) :
    (leftE ents seen = [] ∧ (Instr.next (.pointer (some ⟨r, 0, none⟩)) false ty).run P w = .ok (.tuple #[.bool false]) w) ∨
    ∃ e ∈ leftE ents seen, ∃ n, (Instr.next (.pointer (some ⟨r, 0, none⟩)) false ty).run P w = .ok (.tuple #[.bool true, e.key, e.val]) { w with drawn := n, heap := w.heap.setIfInBounds r (.mapIter (some bm) clk (seen.push e.born) clk) } := by
  have hold : ∀ x ∈ ents.toList, x.born < clk := hbn.2
  simp only [Instr.next, getObj, Sem.run_bind, Sem.run, hr, hb, Result.andThen, next_test_false seen ents clk clk hold (Nat.le_refl _), Bool.false_eq_true, if_false]
  have hl : leftE ents seen = (Array.filter (fun e => !seen.contains e.born) ents).toList := by unfold leftE; rw [Array.toList_filter]
  have hmem : ∀ x ∈ (Array.filter (fun e => !seen.contains e.born) ents).toList, x.born < clk := fun x hx => hold x (by simp at hx ⊢; exact hx.1)
  rw [hl]
  generalize Array.filter (fun e => !seen.contains e.born) ents = L at hmem ⊢
  have e1 : L.filter (fun x => decide (x.born < clk)) = L := Array.filter_eq_self.2 (fun x hx => by simpa using hmem x (by simpa using hx))
  have e2 : L.filter (fun x => decide (x.born ≥ clk)) = #[] := by
    rw [Array.filter_eq_empty_iff]
    intro x hx
    have := hmem x (by simpa using hx)
    simp
    omega
  simp only [e1, e2, Array.append_empty]
  by_cases h0 : L.size = 0
  · left
    have : L = #[] := Array.eq_empty_of_size_eq_zero h0
    subst this
    refine ⟨rfl, ?_⟩
    simp [choose, Sem.run, Question.forced]
  · right
    have hne : L.isEmpty = false := by simp [Array.isEmpty, h0]
    simp only [hne, Bool.false_eq_true, if_false, Array.empty_append, Array.size_map]
    have hch : ∃ (j n : Nat), j < L.size ∧ (choose (Question.mapNext L.size)).run P w = .ok j { w with drawn := n } := by
      by_cases hf : L.size ≤ 1
      · exact ⟨0, w.drawn, by omega, by simp [choose, Sem.run, Question.forced, hf]⟩
      · exact ⟨_, w.drawn + 1, Nat.mod_lt _ (by omega), by
          simp only [choose, Sem.run, Question.forced, decide_eq_true_eq, hf, if_false, Question.cut]
          rfl⟩
    obtain ⟨j, n, hj, hrun⟩ := hch
    refine ⟨L[j], by simp, n, ?_⟩
    have hset : ∀ o', (setObj r o').run P { w with drawn := n } = .ok () { w with drawn := n, heap := w.heap.setIfInBounds r o' } := fun o' => by
      simp only [setObj, Sem.run, hr]
    simp only [hrun, Array.getElem?_map, Array.getElem?_eq_getElem hj, Option.map_some, Sem.run_bind, hset, Result.andThen]
    rfl
theorem next_mk {S : Sp} {d : Nat} {ty : TypeId} {x : Operand} {K : Env → Store → Prop} {E : Env} {σ : Store} {r : Nat} {ks : List AV} {last : AV} (hit : S.itf = true) (hx : ev E x = .v (.pointer (some ⟨r, 0, none⟩))) (hE : E S.N = itA r ks last)
    (h0 : ks = [] → K (upd E d (.tup [B false])) σ)
    (h1 : ∀ l1 k l2, ks = l1 ++ .v k :: l2 → K (upd (upd E d (.tup [B true, .v k, .any])) S.N (itA r (l1 ++ l2) (.v k))) σ)
    (hfit : (Nat.blt d S.N && Op.low S.N (.next x false)) = true := by kernel_rfl) : semD S (some d) (.next x false) ty K E σ := by
  intro pos after guard C H n a w Kc Q ⟨ρ, Im, M, hw⟩ hKc
  simp only [Bool.and_eq_true] at hfit
  have hd : d < C.N := by rw [← H.N]; exact Nat.le_of_ble_eq_true hfit.1
  have hrx := ev_rep hw.env (x := x) (by rw [hw.size, ← H.N]; exact low_of hfit.2 (by simp [Op.operands]))
  rw [hx] at hrx
  have hxv := hrx.v_inv
  have hg := hw.g
  rw [H.it hit, ← H.N] at hg
  obtain ⟨hm, bm, seen, clk, ents, hj, hr, hb, hbn, hks, _⟩ := hg r ks last hE
  have hI := hw.js bm hj
  have hlt := hw.inv.low bm hI
  have hrlt := (hw.ms r hm).1
  have hne : bm ≠ r := fun e => by subst e; exact (hw.ms _ hm).2.2.1 hI
  rcases run_next_at (P := S.P) w ty r bm clk seen ents hr hb hbn with ⟨hl, hrun⟩ | ⟨e, he, m, hrun⟩
  · rw [hl] at hks
    refine wpIn_value (fun _ e => by cases e) ?_ (hKc _ _ _ _ (h0 hks) ⟨_, _, _, hw.put H.G (dst := some d) (v := .tup [B false]) (y := .tuple #[.bool false]) (fun _ e => by cases e; exact hd) (.im _ _ (.tup [B false] [.bool false] rfl fun j c y hc hy => ?_))⟩)
    · simp only [execOp, hxv]; rw [Sem.run_bind, hrun]; rfl
    · match j with
      | 0 => simp at hc hy; subst hc; subst hy; exact .v _
      | j + 1 => simp at hc
  · obtain ⟨l1, l2, h2, h3⟩ := left_push hbn seen he
    have hks2 : ks = l1.map (fun m => (AV.v m.key)) ++ .v e.key :: l2.map (fun m => (AV.v m.key)) := by rw [hks, h2]; simp
    have hK := h1 _ _ _ hks2
    rw [H.N] at hK
    have hmem : e ∈ ents.toList := (List.mem_filter.1 he).1
    have hw2 := hw.ghost (w' := { w with drawn := m, heap := w.heap.setIfInBounds r (.mapIter (some bm) clk (seen.push e.born) clk) }) (r := r) (j := fun b => b = bm) (g := itA r (l1.map (fun m => (AV.v m.key)) ++ l2.map (fun m => (AV.v m.key))) (.v e.key)) (v := .tup [B true, .v e.key, .any]) (y := .tuple #[.bool true, e.key, e.val]) (d := d) hd
      (by simp) (by simpa using hrlt) rfl rfl rfl (fun k _ hk => set_same _ _ _ _ hk) (.inl hm) (.im _ _ (.tup [B true, .v e.key, .any] [.bool true, e.key, e.val] rfl fun j c y hc hy => by
        match j with
        | 0 => simp at hc hy; subst hc; subst hy; exact .v _
        | 1 => simp at hc hy; subst hc; subst hy; exact .v _
        | 2 => simp at hc hy; subst hc; subst hy; exact .any _
        | j + 3 => simp at hc)) (by
        rw [H.it hit]
        intro r' ks' last' e'
        obtain ⟨rfl, rfl, rfl⟩ := itA_inj e'
        refine ⟨.inr rfl, bm, seen.push e.born, clk, ents, rfl, by simp [hrlt], by rw [set_same _ _ _ _ hne]; exact hb, hbn, by rw [h3, List.map_append], fun k hk => ?_⟩
        cases hk
        exact ⟨e, hmem, by simp, rfl⟩) (fun p => rfl) (fun b hb => hb ▸ hI)
    refine wpIn_value (fun _ e => by cases e) ?_ (hKc _ _ _ _ hK ⟨_, _, _, hw2⟩)
    simp only [execOp, hxv]; rw [Sem.run_bind, hrun]; rfl
theorem entry_mk {S : Sp} {d : Nat} {ty : TypeId} {x : Operand} {K : Env → Store → Prop} {E : Env} {σ : Store} {r : Nat} {ks : List AV} {k : Value} (hit : S.itf = true) (hx : ev E x = .v (.pointer (some ⟨r, 0, none⟩))) (hE : E S.N = itA r ks (.v k))
    (h : K (upd E d (.tup [.v k, .any])) σ)
    (hfit : (Nat.blt d S.N && Op.low S.N (.entry x)) = true := by kernel_rfl) : semD S (some d) (.entry x) ty K E σ := by
  intro pos after guard C H n a w Kc Q ⟨ρ, Im, M, hw⟩ hKc
  simp only [Bool.and_eq_true] at hfit
  have hd : d < C.N := by rw [← H.N]; exact Nat.le_of_ble_eq_true hfit.1
  have hrx := ev_rep hw.env (x := x) (by rw [hw.size, ← H.N]; exact low_of hfit.2 (by simp [Op.operands]))
  rw [hx] at hrx
  have hxv := hrx.v_inv
  have hg := hw.g
  rw [H.it hit, ← H.N] at hg
  obtain ⟨hm, bm, seen, clk, ents, hj, hr, hb, hbn, hks, hlast⟩ := hg r ks _ hE
  obtain ⟨e, he, hs, rfl⟩ := hlast k rfl
  have hf : ents.find? (·.born == e.born) = some e := by rw [← Array.find?_toList]; exact find_born e ents.toList hbn.1 he
  refine wpIn_value (fun _ e => by cases e) ?_ (hKc _ _ _ _ h ⟨_, _, _, hw.put H.G (dst := some d) (v := .tup [.v e.key, .any]) (y := .tuple #[e.key, e.val]) (fun _ e => by cases e; exact hd) (.im _ _ (.tup [.v e.key, .any] [e.key, e.val] rfl fun j c y hc hy => ?_))⟩)
  · simp only [execOp, hxv, Instr.entry, getObj, Sem.run_bind, Sem.run, hr, hb, hs, Result.andThen, bne_self_eq_false, Bool.false_eq_true, if_false, hf]
    rfl
  · match j with
    | 0 => simp at hc hy; subst hc; subst hy; exact .v _
    | 1 => simp at hc hy; subst hc; subst hy; exact .any _
    | j + 2 => simp at hc
section
variable {S : Sp} {kd bi : Bool} {dst : Option Nat} {ty t : TypeId} {K Kb : Env → Store → Prop} {E : Env} {σ : Store}
@[go_sem ↓] theorem aop_range (x : Operand) : aopC S kd bi dst (.range t x) ty K Kb E σ = semD S dst (.range t x) ty Kb E σ := rfl
@[go_sem ↓] theorem aop_next (x : Operand) (c : Bool) : aopC S kd bi dst (.next x c) ty K Kb E σ = semD S dst (.next x c) ty Kb E σ := rfl
@[go_sem ↓] theorem aop_entry (x : Operand) : aopC S kd bi dst (.entry x) ty K Kb E σ = semD S dst (.entry x) ty Kb E σ := rfl
@[go_sem] theorem cls_range (P : Program) (x : Operand) : cls P (.range t x) ty = 5 := rfl
@[go_sem] theorem cls_next (P : Program) (x : Operand) (c : Bool) : cls P (.next x c) ty = 5 := rfl
@[go_sem] theorem cls_entry (P : Program) (x : Operand) : cls P (.entry x) ty = 5 := rfl
end
def spI (P : Program) (f : FuncId) (N : Nat) (bad : List Nat) : Sp := { P, N, b := 131072 * (f + 1), pin := fun _ => false, yl := 0, Y := fun _ _ _ => False, bad := inI bad, old := fun _ => false, itf := true }
instance (P : Program) (f N : Nat) (bad : List Nat) : Plain (spI P f N bad) := ⟨fun _ _ _ _ _ hk => (show False from hk).elim⟩
section
variable (P : Program) (f N : Nat) (bad : List Nat)
@[go_sem] theorem spI_P : (spI P f N bad).P = P := rfl
@[go_sem] theorem spI_b : (spI P f N bad).b = 131072 * (f + 1) := rfl
@[go_sem] theorem spI_N : (spI P f N bad).N = N := rfl
@[go_sem] theorem spI_pin (id : Nat) : (spI P f N bad).pin id = false := rfl
@[go_sem] theorem spI_bad (id : Nat) : (spI P f N bad).bad id = bad.contains id := rfl
@[go_sem] theorem spI_itf : (spI P f N bad).itf = true := rfl
end
theorem ev_ofI {P : Program} {f : FuncId} {fn : Func} {c : Code} {args : List AV} {r : AV} (bad : List Nat) (hf : P.funcs[f]? = some fn) (hb : fn.body = some c) (hok : fnB P fn bad c = true) (hmo : P.follows .mixedOrders = true)
    (hlen : args.length ≤ fn.ntmps) (h : awpC (spI P f fn.ntmps bad) c (retC (spI P f fn.ntmps bad) fn r) (initE args) fun _ => none) : Ev P f args r := by
  simp only [fnB, Bool.and_eq_true, Bool.not_eq_true'] at hok
  obtain ⟨⟨⟨h1, h2⟩, h3⟩, h4⟩ := hok
  have h4 := Nat.le_of_ble_eq_true h4
  have h1 := codeOK_of c h1
  have h := awpC_of (S := spI P f fn.ntmps bad) (fun _ _ _ _ _ hk => (show False from hk).elim) c (retC_of fn r) h
  intro args' r0 he
  rw [he.1, he.2]
  refine ⟨enters hf hb h3, fun w Im vs hlow hgk hargs => ?_⟩
  let C : Fx := { w0 := w, X0 := fun _ => False, Im0 := Im, G := itG, N := fn.ntmps, rd := none, pin := fun _ => none, J0 := Im }
  have H : Holds (spI P f fn.ntmps bad) C := ⟨rfl, gstable_it, fun _ _ _ hY => hY.elim, hmo, fun _ _ hp => (by cases hp), fun _ hp => (by cases hp), h4, fun _ => rfl, fun _ _ h _ => h.elim, hgk, fun b hb => ⟨fun h => h, hlow b (hgk.im hb)⟩, (fun _ => rfl)⟩
  have hreps : Reps w (fun _ => none) Im args vs := ⟨hargs.1, fun j c y hc hy => .im _ _ (hargs.2 j c y hc hy)⟩
  refine body_sound (E0 := initE args) (S := spI P f fn.ntmps bad) (C := C) (ρ0 := fun _ => none) (Im0 := Im) (M0 := ⟨fun _ => False, fun _ => False⟩) H rfl hf hb rfl h1 h2 ?_ h fun E σ tm w' ρ I M us ys hk hrest hr => ?_
  · refine ⟨⟨fun id k hk => (by cases hk), fun id k b hk => (by cases hk), fun id k b hk => (by cases hk), fun i j b hi => (by cases hi), fun i b hi => (by cases hi), fun i b hi => (by cases hi), hlow⟩, env_init hreps, ?_, Ext.refl _ _, fun i b hi => (by cases hi), fun b hb => .inl hb, fun p => ?_, ?_, fun b hb => hb.elim, fun b hb => hb.elim, fun l r hr => (by cases hr), .nil, fun d hd => (by cases hd), fun b hb => ?_, fun id b hb => (by cases hb), fun b hb => hb⟩
    · simp only [Array.size_append, List.size_toArray, Array.size_replicate]
      have := hargs.1
      show vs.length + (fn.ntmps - vs.length) = fn.ntmps
      omega
    · show AV.namesB p (initE args fn.ntmps) = false
      rw [initE_out args _ hlen]; rfl
    · show itG (initE args fn.ntmps) _ _
      rw [initE_out args _ hlen]
      intro r ks last e; cases e
    · rcases hb with ⟨r, hr⟩ | hd
      · cases hr
      · cases hd
  · obtain ⟨r', rfl, hrr⟩ := ret_sound hrest (fun _ h => h) hlow hr hk
    exact ⟨_, rfl, hrest.ext, hrr⟩
end Go.Vai
namespace Go.Vai
open Go.RowKit
@[go_sem] theorem frz_clo (L p : Nat → Bool) (σ : Store) (g : Nat) (cs : List AV) : frz L p σ (.clo g cs) = if AV.namesB (notI L) (.clo g cs) = false then .clo g cs else res (killS p (killS L σ)) (((AV.clo g cs).kill L).kill p) := rfl
@[go_sem] theorem oneCell_nilFunc : Value.nilFunc.oneCell' = true := rfl
end Go.Vai
namespace Go.Vai
open Go.RowKit
theorem semD_many {S : Sp} {K : Env → Store → Prop} {E : Env} {σ : Store} {dst : Option Nat} {ty : TypeId} {op : Op} (V : AV → Prop) (hfit : (dst.all (decide <| · < S.N) && Op.low S.N op) = true) (hdf : ∀ c, op ≠ .defer c)
    (h : ∀ (C : Fx) (w : World) (ρ : Nat → Option Nat) (Im : Nat → Prop) (M : Str) (a : Act), Holds S C → Wit C E σ a w ρ Im M → (∀ u ∈ op.operands, Rep w ρ Im (ev E u) (a.eval u)) →
      ∃ r y, V r ∧ (∀ pos after guard, (execOp a.eval ⟨dst, op, ty, pos, after, guard⟩).run S.P w = .ok (.value y) w) ∧ Rep w ρ Im r y) (hK : ∀ r, V r → K (updO E dst r) σ) : semD S dst op ty K E σ := by
  intro pos after guard C H n a w Kc Q ⟨ρ, Im, M, hw⟩ hKc
  simp only [Bool.and_eq_true] at hfit
  obtain ⟨hdst, hlow⟩ := hfit
  have hdst' : ∀ d, dst = some d → d < C.N := fun d hd => by subst hd; rw [← H.N]; simpa using hdst
  have rep : ∀ u ∈ op.operands, Rep w ρ Im (ev E u) (a.eval u) := fun u hu => ev_rep hw.env (by rw [hw.size, ← H.N]; exact low_of hlow hu)
  obtain ⟨r, y, hv, hrun, hr⟩ := h C w ρ Im M a H hw rep
  exact wpIn_value hdf (hrun pos after guard) (hKc _ _ _ _ (hK r hv) ⟨ρ, Im, M, hw.put H.G hdst' hr⟩)
theorem slNil_mk {S : Sp} {K : Env → Store → Prop} {E : Env} {σ : Store} {dst : Option Nat} {ty : TypeId} {t te : TypeId} {op : BinOp} {x : Operand} {t' : TypeId} {sz : Nat} {es : List AV} (hx : ev E x = .sl sz es) (ht : S.P.underlying t = some (.slice te)) (hop : op = .eql ∨ op = .neq)
    (hK : ∀ b, K (updO E dst (.v (.bool b))) σ) (hfit : (dst.all (decide <| · < S.N) && Op.low S.N (.binOp op t x (.const (.slice none 0 0)) t')) = true := by kernel_rfl) : semD S dst (.binOp op t x (.const (.slice none 0 0)) t') ty K E σ := by
  refine semD_many (fun r => ∃ b, r = .v (.bool b)) hfit (fun _ e => by cases e) (fun C w ρ Im M a H hw rep => ?_) (fun r ⟨b, hb⟩ => hb ▸ hK b)
  have hr := rep x (by simp [Op.operands])
  rw [hx] at hr
  have hax : ∃ (ad : Option Addr) (n c : Nat), a.eval x = .slice ad n c := by
    generalize a.eval x = y at hr
    cases hr with
    | im _ _ h => cases h <;> exact ⟨_, _, _, rfl⟩
  obtain ⟨ad, n, c, hax⟩ := hax
  have he : ∀ d, (Op.equalIn (d + 1) t (.slice ad n c) (.slice none 0 0)).run S.P w = .ok ad.isNone w := fun d => by cases ad <;> simp [Op.equalIn, run_underlying ht]
  have hg : ∀ w, (eqGuard op t x (.const (.slice none 0 0)) (.slice ad n c) (.slice none 0 0)).run S.P w = .ok () w := fun w => by unfold eqGuard; cases op <;> rfl
  have hay : a.eval (.const (.slice none 0 0)) = .slice none 0 0 := rfl
  rcases hop with rfl | rfl
  · exact ⟨.v (.bool ad.isNone), .bool ad.isNone, ⟨_, rfl⟩, fun _ _ _ => by simp only [execOp, hax, hay, Sem.run_bind, hg, Result.andThen_ok, binOp, Op.equal, Op.maxDepth, he 9999, Sem.run_pure], .im _ _ (.v _)⟩
  · exact ⟨.v (.bool !ad.isNone), .bool !ad.isNone, ⟨_, rfl⟩, fun _ _ _ => by simp only [execOp, hax, hay, Sem.run_bind, hg, Result.andThen_ok, binOp, Op.equal, Op.maxDepth, he 9999, Sem.run_pure], .im _ _ (.v _)⟩
def stepsV (S : Sp) (Q : Env → Store → Prop) : List Oper → Env → Store → Prop
  | [] => Q
  | o :: l => fun E σ => o.guard = none ∧ semD S o.dst o.op o.type (stepsV S Q l) E σ
theorem region_V {S : Sp} {id : Nat} {ops : Array Oper} {Q : Exit → Env → Store → Prop} {E : Env} {σ : Store} (h : stepsV S (Q .normal) ops.toList E σ) : semC S (.region id ops false) Q E σ := by
  intro C H n R hR a w hs
  refine wpIn_region ?_
  have key : ∀ (l : List Oper) (i : Nat) (E : Env) (σ : Store) (a : Act) (w : World), (∀ j, l[j]? = ops[i + j]?) → stepsV S (Q .normal) l E σ → St C E σ a w → wpOpsIn (FW C.rdl) n S.P ops R (List.range' i l.length) a w := by
    intro l
    induction l with
    | nil => exact fun i E σ a w _ hv hs => hR .normal E σ a w hv hs
    | cons o l ih =>
      intro i E σ a w hl ⟨hg, hv⟩ hs
      have ho : ops[i]? = some o := by simpa using (hl 0).symm
      rw [List.length_cons, List.range'_succ, wpOpsIn_cons]
      refine wpTurn_in ho ?_
      unfold wpTurn
      rw [if_pos (by simp [Region.wanted, hg])]
      exact hv _ _ _ C H n a w _ _ hs fun E' σ' a' w' hk hs' => ih (i + 1) E' σ' a' w' (fun j => by have := hl (j + 1); simpa [Nat.add_assoc, Nat.add_comm 1 j] using this) hk hs'
  have := key ops.toList 0 E σ a w (by simp) h hs
  rw [Array.length_toList, ← List.range_eq_range'] at this
  exact this
end Go.Vai
namespace Go.Vai
open Go.RowKit
theorem lentI_mk {S : Sp} {E : Env} {σ : Store} {K : Env → Store → Prop} {dst : Option Nat} {f : Operand} {args : Array Operand} {ats : Array TypeId} {ty : TypeId} {g : FuncId} {xs caps : List AV} (X t : Nat) {es R : List Int} {e : TypeId} {k : IntKind}
    (hL : LOK S.P g (inI [X]) (xs ++ caps) (stO [(X, ⟨e, 1, es.map fun x => .v (.int k x)⟩)]) (.tup []) (stO [(X, ⟨e, 1, R.map fun x => .v (.int k x)⟩)])) (hfv : ev E f = .clo g caps) (has : args.toList.map (ev E) = xs) (hat : σ X = some ⟨e, 1, es.map fun x => .v (.int k x)⟩)
    (hE : E t = .own X 1 0 R.length) (hn : 0 < R.length) (hq : AV.namesL (notI (inI [X])) (xs ++ caps) = false)
    (hK : K (upd (frE (inI [X]) (addS (killS (own (S.b + dst.getD 99999)) (fdS (inI [X]) (movI (inI [X]) (inI [X])) σ (stO [(X, ⟨e, 1, R.map fun x => .v (.int k x)⟩)]))) (imp (16 * (S.b + dst.getD 99999)) (.tup [])).2) (updO (killE (own (S.b + dst.getD 99999)) (fdE (inI [X]) (movI (inI [X]) (inI [X])) E)) dst (imp (16 * (S.b + dst.getD 99999)) (.tup [])).1)) t (.sl 1 (R.map fun x => .v (.int k x))))
      (frS (inI [X]) (addS (killS (own (S.b + dst.getD 99999)) (fdS (inI [X]) (movI (inI [X]) (inI [X])) σ (stO [(X, ⟨e, 1, R.map fun x => .v (.int k x)⟩)]))) (imp (16 * (S.b + dst.getD 99999)) (.tup [])).2)))
    (hX : (!S.pin X && !S.old X && !Nat.beq (X / 16) (S.b + dst.getD 99999) && Nat.blt t S.N && dst.all fun d => !Nat.beq d t) = true := by kernel_rfl)
    (hfit : (dst.all (decide <| · < S.N) && Op.low S.N (.call { callee := .value f, args, argTypes := ats }) && decide (dst.getD 99999 < 100000)) = true := by kernel_rfl) :
    semD S dst (.call { callee := .value f, args, argTypes := ats }) ty K E σ := by
  simp only [Bool.and_eq_true, decide_eq_true_eq, Bool.not_eq_true'] at hfit hX
  obtain ⟨⟨⟨⟨hXp, hXo⟩, hXd⟩, htN⟩, htd⟩ := hX
  have htN : t < S.N := Nat.le_of_ble_eq_true htN
  have hXd : X / 16 ≠ S.b + dst.getD 99999 := fun e => by rw [e, Nat.beq_refl] at hXd; cases hXd
  have hin : ∀ id, inI [X] id = true ↔ id = X := fun id => by simp [inI]
  have hnl : AV.namesL (notI (inI [X])) (es.map fun x => (.v (.int k x) : AV)) = false := namesL_map _ _ _ fun _ => rfl
  have hnl2 : AV.namesL (notI (inI [X])) (R.map fun x => (.v (.int k x) : AV)) = false := namesL_map _ _ _ fun _ => rfl
  have honly : only (inI [X]) σ = stO [(X, ⟨e, 1, es.map fun x => .v (.int k x)⟩)] := only_stO (l := [(X, ⟨e, 1, es.map fun x => .v (.int k x)⟩)]) ⟨hat, trivial⟩
  subst has
  rw [← honly] at hL
  intro pos after guard C H n a w Kc Q ⟨ρ, Im, M, h⟩ hKc
  obtain ⟨⟨hdst, hlow⟩, hdd⟩ := hfit
  have hdst : ∀ d, dst = some d → d < S.N := fun d hd => by subst hd; simpa using hdst
  have rep : ∀ x, x ∈ (Op.call { callee := .value f, args, argTypes := ats }).operands → Rep w ρ Im (ev E x) (a.eval x) := fun x hx => ev_rep h.env (by rw [h.size, ← H.N]; exact low_of hlow hx)
  refine ⟨fun _ _ => trivial, ?_⟩
  rw [Oper.semAt_eq _ _ _ (fun c e => by cases e)]
  have hfr := rep f (by simp [Op.operands, Call.operands])
  rw [hfv] at hfr
  obtain ⟨cys, hfy, hcl', hcr⟩ := hfr.clo_inv
  have hargs : ∀ x ∈ args.toList, Rep w ρ Im (ev E x) (a.eval x) := fun x hx => rep x (by simp [Op.operands, Call.operands]; exact Or.inr (Array.mem_toList_iff.1 hx))
  have hall : Reps w ρ Im (args.toList.map (ev E) ++ caps) (args.toList.map a.eval ++ cys) := by
    refine ⟨by simp [hcl'], fun j c y hc hy => ?_⟩
    by_cases hj : j < args.toList.length
    · rw [List.getElem?_append_left (by simpa using hj), List.getElem?_map] at hc hy
      rw [List.getElem?_eq_getElem hj] at hc hy
      simp at hc hy; subst hc; subst hy
      exact hargs _ (by simp)
    · rw [List.getElem?_append_right (by simp at hj ⊢; omega)] at hc hy
      simp only [List.length_map] at hc hy
      exact hcr _ c y hc hy
  have hallq : Reps w (killR (notI (inI [X])) ρ) Im (args.toList.map (ev E) ++ caps) (args.toList.map a.eval ++ cys) := ⟨hall.1, fun j c y hc hy => (hall.2 j c y hc hy).killR fun id hid => by
    cases hp : notI (inI [X]) id with
    | false => rfl
    | true =>
      have := (AV.namesL_iff (notI (inI [X])) _).2 ⟨c, List.mem_of_getElem? hc, AV.namesB_of _ hid hp⟩
      rw [hq] at this; cases this⟩
  obtain ⟨henter, hfn⟩ := hL
  have hrun : (execOp a.eval { dst, op := .call { callee := .value f, args, argTypes := ats }, type := ty, pos, after, guard }).run S.P w = .ok (.enter g (args.toList.map a.eval ++ cys).toArray) w := by
    simp only [execOp, resolve, hfy, Deferred.ofValue, Sem.run_bind, Sem.run_pure, Result.andThen_ok, invoke]
    have e1 : (#[] ++ args.map a.eval ++ cys.toArray : Array Value) = (args.toList.map a.eval ++ cys).toArray := by apply Array.toList_inj.1; simp
    rw [e1]; exact henter _ w
  rw [hrun]
  refine ⟨fun h => by simp [FW] at h, calls_FW ?_⟩
  refine (hfn w Im (killR (notI (inI [X])) ρ) _ (h.inv.only fun id q hid hqq => by
    obtain rfl := (hin id).1 hqq
    rw [hat] at hid; cases hid; exact hnl) (h.gok H) hallq).mono fun ee w' ⟨y, ρ', Im', he, hx, hi, hI1, hI2, hρ, hpin, hrr⟩ => ?_
  subst he
  obtain ⟨ρ3, Im3, hw, hρ3⟩ := h.lent (pin := inI [X]) H hx hi hI1 hI2 hρ hpin (fun id q hid => by
    have := stO_mem hid
    simp only [List.mem_singleton, Prod.mk.injEq] at this
    obtain ⟨rfl, rfl⟩ := this
    exact ⟨(hin _).2 rfl, hnl2⟩) (fun id _ hq' => hq') hdd hrr (Nat.le_of_ble_eq_true rfl) (dst := dst) (by rw [← H.N]; exact hdst)
  -- the slice's value
  have htC : t < C.N := by rw [← H.N]; exact htN
  obtain ⟨y0, hy0⟩ : ∃ y0, a.tmps[t]? = some y0 := ⟨_, Array.getElem?_eq_getElem (by rw [h.size]; exact htC)⟩
  have hr0 := h.env t y0 hy0
  rw [hE] at hr0
  have hy : ∃ b cap, y0 = .slice (some ⟨b, 0, none⟩) R.length cap ∧ ρ X = some b ∧ R.length ≤ cap := by
    generalize R.length = m at hr0 hn
    generalize hav : AV.own X 1 0 m = av at hr0
    cases hr0 with
    | im _ _ hh => subst hav; cases hh
    | ownNil => cases hav; omega
    | own id sz n b cap cur e' hr hn' => cases hav; exact ⟨b, cap, rfl, hr, hn'⟩
    | ownAt id sz i n b cap a' hi' => cases hav; omega
    | _ => cases hav
  obtain ⟨b, cap, rfl, hb, hcap⟩ := hy
  have hqX : inI [X] X = true := (hin X).2 rfl
  have hb' : ρ' X = some b := by rw [hpin X hqX, killR_of ρ (by simp [notI, hqX])]; exact hb
  have hb3 : ρ3 X = some b := by rw [hρ3 X hXd, if_pos hqX]; exact hb'
  have hf := hw.freeze H (inI [X]) (fun id hid => by
    cases hh : inI [X] id with
    | false => rfl
    | true => obtain rfl := (hin id).1 hh; rw [hid] at hXp; cases hXp) (fun id hid => by
    cases hh : inI [X] id with
    | false => rfl
    | true => obtain rfl := (hin id).1 hh; rw [hid] at hXo; cases hXo)
  have hN : ∀ (E : Env) v, upd E t v C.N = E C.N := fun E v => by unfold upd; rw [if_neg (by omega)]
  refine hKc _ _ _ _ hK ⟨_, _, M, ⟨hf.inv, fun t' y' hy' => ?_, hf.size, hf.ext, hf.rng, hf.im, by rw [hN]; exact hf.gh, by rw [hN]; exact hf.g, hf.js, hf.ms, hf.rd, hf.nodup, hf.df, hf.bk, hf.pin, hf.j0⟩⟩
  unfold upd
  split
  · rename_i ht'
    subst ht'
    have hyy : y' = .slice (some ⟨b, 0, none⟩) R.length cap := by
      cases dst with
      | none => simp [Act.put] at hy'; rw [hy0] at hy'; exact (Option.some.inj hy').symm
      | some d =>
        have hdt : d ≠ t' := fun e => by subst e; simp at htd
        simp only [Act.put] at hy'
        rw [Array.getElem?_setIfInBounds_ne hdt] at hy'
        rw [hy0] at hy'; exact (Option.some.inj hy').symm
    subst hyy
    obtain ⟨cur, ⟨fr, hc1, _⟩, hc2, hc3, hc4⟩ := hi.blk X ⟨e, 1, R.map fun x => .v (.int k x)⟩ b (by simp [stO]) hb' Nat.one_ne_zero
    have hlen : R.length = (R.map fun x => (.v (.int k x) : AV)).length := by simp
    have hcell : ∀ i, i < R.length → cur[i]? = some (.int k (R[i]?.getD 0)) := fun i hi' => by
      obtain ⟨x, g1, g2, g3⟩ := hc4 i (.v (.int k R[i])) 0 (.v (.int k R[i])) (by simp [hi']) rfl
      have := g3.v_inv
      subst this
      simpa [hi'] using g1
    rw [hlen]
    refine .im _ _ (.sl 1 _ b 0 cap (fun i _ => .int k (R[i]?.getD 0)) ?_ (by simpa using hcap) (fun e' he' => ?_) (fun i j hi' hj => ?_) (fun i e' j c he' hc' => ?_))
    · exact .inr ⟨X, by rw [killR_of ρ3 (by simp [notI, hqX])]; exact hb3⟩
    · obtain ⟨x, _, rfl⟩ := List.mem_map.1 he'; rfl
    · obtain rfl : j = 0 := by omega
      have hi' : i < R.length := by simpa using hi'
      exact ⟨by simp [World.cell?, hc1, hcell i hi'], rfl⟩
    · rw [List.getElem?_map] at he'
      cases hh : R[i]? with
      | none => simp [hh] at he'
      | some x =>
        simp [hh] at he'; subst he'
        cases j with
        | zero => simp at hc'; subst hc'; simp; exact .v _
        | succ j => simp at hc'
  · exact hf.env t' y' hy'
end Go.Vai
namespace Go.Vai
open Go.RowKit
variable {S : Sp} {dst : Option Nat} {ty : TypeId} {K : Env → Store → Prop} {E : Env} {σ : Store}
section
variable {p : Nat → Bool} {nm q k : Nat → Bool}
@[go_sem] theorem kill_cut (s : Nat) (es : List AV) : AV.kill p (.cut s es) = .cut s es := rfl
@[go_sem] theorem fade_cut (s : Nat) (es : List AV) : fade nm (.cut s es) = .cut s es := rfl
@[go_sem] theorem fd_cut (s : Nat) (es : List AV) : AV.fd q k (.cut s es) = .cut s es := rfl
@[go_sem] theorem res_cut (s : Nat) (es : List AV) : res σ (.cut s es) = .cut s es := rfl
@[go_sem] theorem frz_cut (L p : Nat → Bool) (σ : Store) (s : Nat) (es : List AV) : frz L p σ (.cut s es) = .cut s es := rfl
@[go_sem] theorem frzE_cut (L p : Nat → Bool) (σ : Store) (s : Nat) (es : List AV) : frzE L p σ (.cut s es) = .cut s es := rfl
end
theorem slice3c_mk {t e : TypeId} {x mx : Operand} {lo hi : Option Operand} {sz : Nat} {es : List AV} (l h : Nat) {km : IntKind} (hx : ev E x = .sl sz es) (ht : tel S.P t = some e) (hz : tsz S.P e = sz) (h0 : 0 < sz) (hm : ev E mx = .v (.int km h)) (hhi : hi ≠ none)
    (hb : bound E hi es.length fun h' => bound E lo 0 fun l' => l' = l ∧ h' = h ∧ l ≤ h ∧ h ≤ es.length) (hK : K (updO E dst (.cut sz ((es.drop l).take (h - l)))) σ)
    (hfit : (dst.all (decide <| · < S.N) && Op.low S.N (.slice t x lo hi (some mx))) = true := by kernel_rfl) : semD S dst (.slice t x lo hi (some mx)) ty K E σ := by
  refine semD_pure _ hfit (fun _ e => by cases e) (fun C w ρ Im M a H hw rep => ?_) hK
  have hr := rep x (by simp [Op.operands])
  have hmr := rep mx (by simp [Op.operands])
  rw [hm] at hmr
  have hmv := hmr.v_inv
  obtain ⟨h', hb, hh⟩ := bound_sound (w := w) (ρ := ρ) (Im := Im) hb fun o ho => rep o (by subst ho; simp [Op.operands])
  obtain ⟨l', ⟨rfl, rfl, hlh, hhm⟩, hl⟩ := bound_sound (w := w) (ρ := ρ) (Im := Im) hb fun o ho => rep o (by subst ho; simp [Op.operands])
  rw [hx] at hr
  obtain ⟨ad, n', cap, hy, hn', h1, h2, h3, _, hrep⟩ := slCut_sound (P := S.P) (e := e) (lo := l') (hi := h') (r := .sl sz ((es.drop l').take (h' - l'))) (x := .sl sz es) ⟨h0, hz, hlh, hhm, rfl⟩ hr
  simp only [lenV, Option.some.injEq] at hn'
  subst hn'
  have hmx : mx ∈ (Op.slice t x lo hi (some mx)).operands := by simp [Op.operands]
  have key : (Instr.sliceBounds true es.length cap (lo.map a.eval) (hi.map a.eval) (some (a.eval mx))).run S.P w = .ok (l', h', h') w := by
    unfold Instr.sliceBounds
    have r1 := fun c => run_sliceBound (P := S.P) (w := w) (k := km) (code := c) (show h' ≤ cap by omega)
    have r2 := fun k c => run_sliceBound (P := S.P) (w := w) (k := k) (code := c) (Nat.le_refl h')
    have r3 := fun k c => run_sliceBound (P := S.P) (w := w) (k := k) (code := c) hlh
    rw [hmv]
    rcases hh with ⟨rfl, rfl⟩ | ⟨o, k, rfl, ho⟩
    · exact absurd rfl hhi
    · rcases hl with ⟨rfl, rfl⟩ | ⟨o', k', rfl, ho'⟩
      · simp [ho, r1, r2]
      · simp [ho, ho', r1, r2, r3]
  have hsz := run_sizeOf' (P := S.P) (t := e) (by omega) w
  have hL : ((es.drop l').take (h' - l')).length = h' - l' := by rw [List.length_take, List.length_drop]; omega
  refine ⟨.slice (if h' = l' then ad else ad.map (·.add (l' * tsz S.P e))) (h' - l') (h' - l'), fun _ _ _ => ?_, ?_⟩
  · simp only [execOp, hy, Option.map_some, Instr.sliceAt, Instr.slice, Sem.run_bind, run_underlying (tel_of ht) w, Result.andThen_ok, key, hsz, Sem.run_pure]
  · have main : ∀ ad', IRep w Im (.sl sz ((es.drop l').take (h' - l'))) (.slice ad' (h' - l') (h' - l')) → Rep w ρ Im (.cut sz ((es.drop l').take (h' - l'))) (.slice ad' (h' - l') (h' - l')) := fun ad' hh => by
      have := IRep.cut sz ((es.drop l').take (h' - l')) ad' (by rw [hL]; exact hh)
      rw [hL] at this
      exact .im _ _ this
    refine main _ ?_
    by_cases e0 : h' - l' = 0
    · have : (es.drop l').take (h' - l') = [] := by rw [e0]; rfl
      rw [this, e0]; exact .slnil ..
    · rw [if_neg (by omega)]
      rw [if_neg (by omega)] at hrep
      generalize ad.map (·.add (l' * tsz S.P e)) = ad' at hrep
      clear main
      generalize (es.drop l').take (h' - l') = L at *
      generalize h' - l' = q at *
      generalize cap - l' = c at *
      clear key
      cases hrep with
      | im _ _ hr =>
        cases hr with
        | slnil => simp at hL; omega
        | sl _ _ b o cap' f hIm hcap hl' hc hrep' => exact .sl _ _ b o _ f hIm (Nat.le_refl _) hl' hc hrep'
theorem appendCut_mk {t e d : TypeId} {x y : Operand} {sz : Nat} {es xs : List AV} (hx : ev E x = .cut sz es) (ht : tel S.P t = some e) (hz : tsz S.P e = sz) (h0 : 0 < sz)
    {z : Value} (hzv : tz S.P e = some z) (hzok : (ofC z).ok = true) (hzl : (ofC z).cells.length = tsz S.P e)
    (hstr : ∀ s, ev E y ≠ .v (.string s)) (hsrc : srcEls σ (ev E y) fun sz' xs' => sz' = sz ∧ xs' = xs) (hpos : 0 < xs.length) (hxl : ∀ e ∈ xs, e.cells.length = sz)
    (hby : (es.length + xs.length) * tby S.P e ≤ 140737488355328) (h63 : es.length + xs.length ≤ 4611686018427387904)
    (hnn : AV.namesL (isId (16 * (S.b + d))) (es ++ xs) = false)
    (hK : K (upd (killE (isId (16 * (S.b + d))) E) d (.own (16 * (S.b + d)) sz 0 (es.length + xs.length))) (updS (killS (isId (16 * (S.b + d))) σ) (16 * (S.b + d)) ⟨e, sz, es ++ xs⟩))
    (hd : (Nat.blt d S.N && Nat.blt d 100000) = true := by kernel_rfl) (hlow : Op.low S.N (.call { callee := .builtin .append, args := #[x, y], argTypes := #[t, t] }) = true := by kernel_rfl) :
    semD S (some d) (.call { callee := .builtin .append, args := #[x, y], argTypes := #[t, t] }) ty K E σ := by
  intro pos after guard C H n a w Kc Q ⟨ρ, Im, M, hw⟩ hKc
  simp only [Bool.and_eq_true] at hd
  have hd1 : d < S.N := Nat.le_of_ble_eq_true hd.1
  have hd2 : d < 100000 := Nat.le_of_ble_eq_true hd.2
  have rep : ∀ o, o ∈ (Op.call { callee := .builtin .append, args := #[x, y], argTypes := #[t, t] }).operands → Rep w ρ Im (ev E o) (a.eval o) := fun o ho => ev_rep hw.env (by rw [hw.size, ← H.N]; exact low_of hlow ho)
  have hrx := rep x (by simp [Op.operands, Call.operands])
  have hry := rep y (by simp [Op.operands, Call.operands])
  obtain ⟨i, hi, hiz, his, hib⟩ := tz_of hzv
  rw [hx] at hrx
  obtain ⟨ad, hax, hcut⟩ : ∃ ad, a.eval x = .slice ad es.length es.length ∧ IRep w Im (.sl sz es) (.slice ad es.length es.length) := by
    generalize a.eval x = v at hrx
    cases hrx with | im _ _ h => cases h with | cut _ _ ad h => exact ⟨ad, rfl, h⟩
  have holds : ∃ olds : List Value, olds.length = es.length * sz ∧ (∀ b, ad = some b → ∀ (j : Nat) (v : Value), olds[j]? = some v → w.cell? (b.add j) = some v) ∧ (∀ v ∈ olds, v.oneCell' = true) ∧ (∀ e ∈ es, e.cells.length = sz) ∧ (ad = none → es = []) ∧
      ∀ (i : Nat) (e : AV) (j : Nat) (c : AV), es[i]? = some e → e.cells[j]? = some c → ∃ v, olds[i * sz + j]? = some v ∧ Rep w ρ Im c v := by
    obtain ⟨sz1, xs1, ⟨rfl, rfl⟩, hs⟩ := src_cells hw.inv (x := .sl sz es) (K := fun s l => s = sz ∧ l = es) ⟨rfl, rfl⟩ (.im _ _ hcut)
    rcases hs with ⟨ad', cap', hy', _, hm⟩ | ⟨s, hs, _⟩
    · simp only [Value.slice.injEq] at hy'
      obtain ⟨rfl, _, rfl⟩ := hy'
      rcases hm with ⟨hnil, _⟩ | ⟨b', o', rfl, hl1, hc1⟩
      · subst hnil; exact ⟨[], by simp, by simp, by simp, by simp, fun _ => rfl, by simp⟩
      · obtain ⟨olds, q1, q2, q3, q4⟩ := flat_cells hl1 hc1
        exact ⟨olds, q1, fun b hb => by cases hb; exact q2, q3, hl1, fun h => (by cases h), q4⟩
    · cases hs
  obtain ⟨olds, hol, hoc, ho1, hesl, hadn, hor⟩ := holds
  obtain ⟨sz2, xs2, ⟨h5, h6⟩, hs2⟩ := src_cells hw.inv hsrc hry
  rw [h5, h6] at hs2
  clear h5 h6
  obtain ⟨ad2, cap2, hay, _, hm2⟩ := hs2.resolve_right fun ⟨s, hs, _⟩ => absurd hs (hstr s)
  rcases hm2 with ⟨hnil, _⟩ | ⟨b2, o2, rfl, hl2, hc2⟩
  · rw [hnil] at hpos; exact absurd hpos (Nat.lt_irrefl _)
  obtain ⟨news, hnl, hnc, hn1, hnr⟩ := flat_cells hl2 hc2
  have hzc : z.cells.size = i.size := by
    obtain ⟨zs, h1, h2, _⟩ := Value.cells_ofC hzok
    rw [h1, his]; simp [← h2, hzl]
  have hlen : ∀ v, (Builtin.lenOf (a.eval y)).run S.P v = .ok xs.length v := fun v => by rw [hay]; simp [Builtin.lenOf]
  have hfirst : (Builtin.firstCells i.size xs.length (a.eval y)).run S.P w.drew = .ok news.toArray w.drew := by
    rw [hay, his, hz]
    exact run_firstCells_some w.drew _ _ _ _ _ _ hnl fun j u hu => by rw [← hnc j u hu]; rfl
  let cap := grownCap w (es.length + xs.length) es.length e
  have hcapg : es.length + xs.length ≤ cap := grownCap_ge w _ _ e
  have hcapm : cap ≤ maxLen := grownCap_le_maxLen w _ _ e (by simp only [maxLen]; omega)
  let cur : List Value := olds ++ news ++ (Builtin.zeroCells z.cells (cap - (es.length + xs.length))).toList
  have hrun : (Builtin.append_ #[t, t] ty #[a.eval x, a.eval y]).run S.P w = .ok (.slice (some ⟨w.heap.size, 0, none⟩) (es.length + xs.length) cap) (w.drew.alloc (.cells cur.toArray e)) := by
    rw [hax]
    have ecells : cur.toArray = olds.toArray ++ news.toArray ++ Builtin.zeroCells z.cells (cap - (es.length + xs.length)) := by
      apply Array.toList_inj.1; simp [cur]
    rw [ecells]
    cases had : ad with
    | some b =>
      exact append_grow_mk w t t ty e i z (tel_of ht) hi hiz (.inl ⟨_, tel_of ht⟩) b es.length es.length olds (by rw [his, hz]; exact hol) (hoc b had) (a.eval y) xs.length news hlen hfirst (by omega) (by omega) (growslice_fits (by omega) (by rw [hib]; exact hby))
    | none =>
      have he0 := hadn had
      have ho0 : olds = [] := List.eq_nil_of_length_eq_zero (by rw [hol, he0]; simp)
      have hr := append_nil_mk w t t ty e i z (tel_of ht) hi hiz (.inl ⟨_, tel_of ht⟩) (a.eval y) xs.length news hlen hfirst hpos (by omega) (by rw [hib]; rw [he0] at hby; simp only [List.length_nil, Nat.zero_add] at hby; omega)
      have hcap0 : cap = grownCap w xs.length 0 e := by simp only [cap, he0, List.length_nil, Nat.zero_add]
      rw [hcap0, he0, ho0]
      simp only [List.length_nil, Nat.zero_add, List.nil_append, Array.empty_append]
      simpa using hr
  have hsize : cur.toArray.size = cap * sz := by
    simp only [cur, List.size_toArray, List.length_append, hol, hnl, Array.length_toList, size_zeroCells, hzc, his, hz, ← Nat.add_mul]
    congr 1; omega
  have hk : ((⟨e, sz, es ++ xs⟩ : Blk).kill (isId (16 * (S.b + d)))) = ⟨e, sz, es ++ xs⟩ := by simp [Blk.kill, hnn]
  have h2 := hw.renew H.G (id := 16 * (S.b + d)) (d := d) (by rw [← H.N]; exact hd1) (k := ⟨e, sz, es ++ xs⟩) (g := w.heap.size) (cur := cur.toArray) (n := es.length + xs.length) (cap := cap) (sz := sz)
    (w' := w.drew.alloc (.cells cur.toArray e))
    ⟨rfl, rfl, rfl, by simp, fun q hq _ => Below.heap_alloc w.drew _ q hq⟩ (.inr (Nat.le_refl _)) (fun q _ hq => Below.heap_alloc w.drew _ q hq) (cells_of (World.alloc_heap_new w.drew _))
    (fun e he => (List.mem_append.1 he).elim (hesl e) (hl2 e)) (by simp only [List.length_append]; rw [hsize]; exact Nat.mul_le_mul_right _ hcapg) (fun i e' j c he' hc => ?_) hcapg hcapm hsize (by omega) (by show sz ≠ 0; omega) (H.free hd2 0 (by omega))
  · rw [hk] at h2
    refine wpIn_value (fun _ e => by cases e) ?_ (hKc _ _ _ _ hK ⟨_, _, _, h2⟩)
    simp [execOp, resolve, invoke, builtin, hrun]
  · show ∃ x, cur.toArray[i * sz + j]? = some x ∧ x.oneCell' = true ∧ Rep w ρ Im c x
    simp only at he'
    by_cases hin : i < es.length
    · rw [List.getElem?_append_left hin] at he'
      obtain ⟨v, hv, hr⟩ := hor i e' j c he' hc
      refine ⟨v, ?_, ho1 v (List.mem_of_getElem? hv), hr⟩
      simp only [cur, List.getElem?_toArray]
      rw [List.append_assoc, List.getElem?_append_left (List.getElem?_eq_some_iff.1 hv).1]; exact hv
    · rw [List.getElem?_append_right (by omega)] at he'
      obtain ⟨v, hv, hr⟩ := hnr (i - es.length) e' j c he' hc
      refine ⟨v, ?_, hn1 v (List.mem_of_getElem? hv), hr⟩
      have hlt := (List.getElem?_eq_some_iff.1 hv).1
      have hidx : i * sz + j - olds.length = (i - es.length) * sz + j := by
        rw [hol, Nat.sub_mul]; have := Nat.mul_le_mul_right sz (show es.length ≤ i by omega); omega
      have hge : olds.length ≤ i * sz + j := by rw [hol]; have := Nat.mul_le_mul_right sz (show es.length ≤ i by omega); omega
      simp only [cur, List.getElem?_toArray]
      rw [List.append_assoc, List.getElem?_append_right hge, hidx, List.getElem?_append_left hlt]; exact hv
def stepsK1 (x : Nat) (S : Sp) (ops : Array Oper) (J : (Nat → Bool) → Env → Store → Prop) : Nat → List Oper → Prop
  | _, [] => True
  | i, o :: l => (i ≠ x → ∀ D E σ, J D E σ → D i = false ∧ depK D o.after.toList → opsC S false ops i [o] (J (insJ D i)) E σ) ∧ stepsK1 x S ops J (i + 1) l
theorem stepsJ1_of {x : Nat} {S : Sp} {ops : Array Oper} {J : (Nat → Bool) → Env → Store → Prop} : ∀ {l : List Oper} {i : Nat}, stepsK1 x S ops J i l → stepsJ1 x S ops J i l
  | [], _, _ => trivial
  | _ :: _, _, ⟨h1, h2⟩ => ⟨fun hx D hD hd E σ hJ => h1 hx D E σ hJ ⟨hD, depK_of hd⟩, stepsJ1_of h2⟩
theorem region_K1 {S : Sp} [hY : Plain S] {id : Nat} {ops : Array Oper} {Q : Exit → Env → Store → Prop} {E : Env} {σ : Store} (J : (Nat → Bool) → Env → Store → Prop) (x : Nat)
    (h0 : J (fun _ => false) E σ) (hsteps : stepsK1 x S ops J 0 ops.toList)
    (hx : ∀ o, ops[x]? = some o → o.guard = none ∧ ∀ D E σ, J D E σ → D x = false ∧ depK D o.after.toList → semD S o.dst o.op o.type (J (insJ D x)) E σ)
    (hend : ∀ D E σ, (∀ i, i < ops.size → D i = true) → J D E σ → Q .normal E σ)
    (hfit : ops.toList.all (Oper.fits S.P S.N) = true := by kernel_rfl) (hedge : edgesQ 0 ops.toList = true := by kernel_rfl) : semC S (.region id ops true) Q E σ :=
  region_J1 hY.mono J x h0 (stepsJ1_of hsteps) (fun o ho => ⟨(hx o ho).1, fun D hD hd E σ hJ => ((hx o ho).2 D E σ hJ ⟨hD, depK_of hd⟩) o.pos o.after o.guard⟩) hend hfit hedge
end Go.Vai
set_option maxRecDepth 100000
namespace Go.Proofs.YthkihocapdfonaaGreatDoor
open Go.Vai Go Go.Proofs
open Nat (reduceEqDiff reduceMul reduceAdd reduceDiv reduceLeDiff)
open Int (reduceToNat reduceNe reduceEq reduceLT reduceLE)
abbrev TF (t : Nat) (x0 : Bool) (x1 : Nat) (x2 : Option TypeId) (x3 : Option (Nat × TypeId)) (x4 : Option (List (Nat × TypeId))) (x5 : Option IntKind) (x6 : Bool) (x7 : Option Bool) (x8 : Nat) (x9 : Option Nat) (x10 : Option (List Nat)) (x11 : Bool) : Prop := tund Tryz.prog t = x0 ∧ tsz Tryz.prog t = x1 ∧ tel Tryz.prog t = x2 ∧ tarr Tryz.prog t = x3 ∧ tfld Tryz.prog t = x4 ∧ tint Tryz.prog t = x5 ∧ tstr Tryz.prog t = x6 ∧ tagg Tryz.prog t = x7 ∧ tby Tryz.prog t = x8 ∧ tkind Tryz.prog t = x9 ∧ teq Tryz.prog t = x10 ∧ tpt Tryz.prog t = x11
theorem tf {t : Nat} {x0 : Bool} {x1 : Nat} {x2 : Option TypeId} {x3 : Option (Nat × TypeId)} {x4 : Option (List (Nat × TypeId))} {x5 : Option IntKind} {x6 : Bool} {x7 : Option Bool} {x8 : Nat} {x9 : Option Nat} {x10 : Option (List Nat)} {x11 : Bool} (h : (tund Tryz.prog t, tsz Tryz.prog t, tel Tryz.prog t, tarr Tryz.prog t, tfld Tryz.prog t, tint Tryz.prog t, tstr Tryz.prog t, tagg Tryz.prog t, tby Tryz.prog t, tkind Tryz.prog t, teq Tryz.prog t, tpt Tryz.prog t) = (x0, x1, x2, x3, x4, x5, x6, x7, x8, x9, x10, x11)) : TF t x0 x1 x2 x3 x4 x5 x6 x7 x8 x9 x10 x11 := by simpa only [TF, Prod.mk.injEq] using h
@[go_sem] theorem t0 : TF 0 true 1 none none none none false (some false) 0 none none false := tf (by kernel_rfl)
@[go_sem] theorem tzA_0 : tzA Tryz.prog 0 = (some (AV.tup []) : Option AV) := by kernel_rfl
@[go_sem] theorem t1 : TF 1 true 1 none none none none false (some false) 8 none none false := tf (by kernel_rfl)
@[go_sem] theorem tzA_1 : tzA Tryz.prog 1 = (some (AV.v Value.nilFunc) : Option AV) := by kernel_rfl
@[go_sem] theorem t2 : TF 2 true 1 none none none (some .i64) false (some false) 8 (some 0) none false := tf (by kernel_rfl)
@[go_sem] theorem tzA_2 : tzA Tryz.prog 2 = (some (AV.v (Value.int IntKind.i64 (0))) : Option AV) := by kernel_rfl
@[go_sem] theorem t3 : TF 3 true 1 none none none (some .i64) false (some false) 8 (some 0) none false := tf (by kernel_rfl)
@[go_sem] theorem tzA_3 : tzA Tryz.prog 3 = (some (AV.v (Value.int IntKind.i64 (0))) : Option AV) := by kernel_rfl
@[go_sem] theorem t4 : TF 4 true 1 none none none none false (some false) 1 (some 1) none false := tf (by kernel_rfl)
@[go_sem] theorem tzA_4 : tzA Tryz.prog 4 = (some (AV.v (Value.bool false)) : Option AV) := by kernel_rfl
@[go_sem] theorem t5 : TF 5 true 1 none none none (some .u8) false (some false) 1 (some 0) none false := tf (by kernel_rfl)
@[go_sem] theorem tzA_5 : tzA Tryz.prog 5 = (some (AV.v (Value.int IntKind.u8 (0))) : Option AV) := by kernel_rfl
@[go_sem] theorem t6 : TF 6 true 1 none none none (some .u8) false (some false) 1 (some 0) none false := tf (by kernel_rfl)
@[go_sem] theorem tzA_6 : tzA Tryz.prog 6 = (some (AV.v (Value.int IntKind.u8 (0))) : Option AV) := by kernel_rfl
@[go_sem] theorem t7 : TF 7 true 4 none none (some [(0, 2), (1, 3), (2, 4), (3, 6)]) none false (some true) 24 none (some [0, 0, 1, 0]) false := tf (by kernel_rfl)
@[go_sem] theorem tzA_7 : tzA Tryz.prog 7 = (some (AV.agg [AV.v (Value.int IntKind.i64 (0)), AV.v (Value.int IntKind.i64 (0)), AV.v (Value.bool false), AV.v (Value.int IntKind.u8 (0))]) : Option AV) := by kernel_rfl
@[go_sem] theorem t8 : TF 8 true 4 none none (some [(0, 2), (1, 3), (2, 4), (3, 6)]) none false (some true) 24 none (some [0, 0, 1, 0]) false := tf (by kernel_rfl)
@[go_sem] theorem tzA_8 : tzA Tryz.prog 8 = (some (AV.agg [AV.v (Value.int IntKind.i64 (0)), AV.v (Value.int IntKind.i64 (0)), AV.v (Value.bool false), AV.v (Value.int IntKind.u8 (0))]) : Option AV) := by kernel_rfl
@[go_sem] theorem t9 : TF 9 true 1 none none none none true (some false) 16 (some 2) none false := tf (by kernel_rfl)
@[go_sem] theorem tzA_9 : tzA Tryz.prog 9 = (some (AV.v (Value.string ByteArray.empty)) : Option AV) := by kernel_rfl
@[go_sem] theorem t10 : TF 10 true 1 none none none none true (some false) 16 (some 2) none false := tf (by kernel_rfl)
@[go_sem] theorem tzA_10 : tzA Tryz.prog 10 = (some (AV.v (Value.string ByteArray.empty)) : Option AV) := by kernel_rfl
@[go_sem] theorem t11 : TF 11 true 1 none none none none true (some false) 16 (some 2) none false := tf (by kernel_rfl)
@[go_sem] theorem tzA_11 : tzA Tryz.prog 11 = (some (AV.v (Value.string ByteArray.empty)) : Option AV) := by kernel_rfl
@[go_sem] theorem t12 : TF 12 true 1 none none none (some .u64) false (some false) 8 (some 0) none false := tf (by kernel_rfl)
@[go_sem] theorem tzA_12 : tzA Tryz.prog 12 = (some (AV.v (Value.int IntKind.u64 (0))) : Option AV) := by kernel_rfl
@[go_sem] theorem t13 : TF 13 true 2 none none (some [(0, 9), (1, 12)]) none false (some true) 24 none none false := tf (by kernel_rfl)
@[go_sem] theorem tzA_13 : tzA Tryz.prog 13 = (some (AV.agg [AV.v (Value.string ByteArray.empty), AV.v (Value.int IntKind.u64 (0))]) : Option AV) := by kernel_rfl
@[go_sem] theorem t14 : TF 14 true 2 none none (some [(0, 9), (1, 12)]) none false (some true) 24 none none false := tf (by kernel_rfl)
@[go_sem] theorem tzA_14 : tzA Tryz.prog 14 = (some (AV.agg [AV.v (Value.string ByteArray.empty), AV.v (Value.int IntKind.u64 (0))]) : Option AV) := by kernel_rfl
@[go_sem] theorem t15 : TF 15 true 1 none none none none false (some false) 8 none none true := tf (by kernel_rfl)
@[go_sem] theorem tzA_15 : tzA Tryz.prog 15 = (some (AV.v (Value.pointer none)) : Option AV) := by kernel_rfl
@[go_sem] theorem t16 : TF 16 true 1 none none none none false (some false) 8 none none true := tf (by kernel_rfl)
@[go_sem] theorem tzA_16 : tzA Tryz.prog 16 = (some (AV.v (Value.pointer none)) : Option AV) := by kernel_rfl
@[go_sem] theorem t17 : TF 17 true 1 none none none none false (some false) 8 none none true := tf (by kernel_rfl)
@[go_sem] theorem tzA_17 : tzA Tryz.prog 17 = (some (AV.v (Value.pointer none)) : Option AV) := by kernel_rfl
@[go_sem] theorem t18 : TF 18 true 1 none none (some [(0, 17)]) none false (some true) 8 none none false := tf (by kernel_rfl)
@[go_sem] theorem tzA_18 : tzA Tryz.prog 18 = (some (AV.agg [AV.v (Value.pointer none)]) : Option AV) := by kernel_rfl
@[go_sem] theorem t19 : TF 19 true 1 none none (some [(0, 17)]) none false (some true) 8 none none false := tf (by kernel_rfl)
@[go_sem] theorem tzA_19 : tzA Tryz.prog 19 = (some (AV.agg [AV.v (Value.pointer none)]) : Option AV) := by kernel_rfl
@[go_sem] theorem t20 : TF 20 true 1 none none none none false (some false) 16 none none false := tf (by kernel_rfl)
@[go_sem] theorem tzA_20 : tzA Tryz.prog 20 = (some (AV.v Value.nilIface) : Option AV) := by kernel_rfl
@[go_sem] theorem t21 : TF 21 true 1 none none none (some .i32) false (some false) 4 (some 0) none false := tf (by kernel_rfl)
@[go_sem] theorem tzA_21 : tzA Tryz.prog 21 = (some (AV.v (Value.int IntKind.i32 (0))) : Option AV) := by kernel_rfl
@[go_sem] theorem t22 : TF 22 true 1 (some 71) none none none false (some false) 24 none none false := tf (by kernel_rfl)
@[go_sem] theorem tz_22 : tz Tryz.prog 22 = some (Value.slice none 0 0) := by kernel_rfl
@[go_sem] theorem tzA_22 : tzA Tryz.prog 22 = (some (AV.v (Value.slice none 0 0)) : Option AV) := by kernel_rfl
@[go_sem] theorem t23 : TF 23 true 3 none (some (3, 3)) none none false (some true) 24 none none false := tf (by kernel_rfl)
@[go_sem] theorem tzA_23 : tzA Tryz.prog 23 = (some (AV.agg [AV.v (Value.int IntKind.i64 (0)), AV.v (Value.int IntKind.i64 (0)), AV.v (Value.int IntKind.i64 (0))]) : Option AV) := by kernel_rfl
@[go_sem] theorem t24 : TF 24 true 1 none none none none false (some false) 8 none none false := tf (by kernel_rfl)
@[go_sem] theorem tzA_24 : tzA Tryz.prog 24 = (some (AV.v Value.nilFunc) : Option AV) := by kernel_rfl
@[go_sem] theorem t25 : TF 25 true 1 (some 70) none none none false (some false) 24 none none false := tf (by kernel_rfl)
@[go_sem] theorem tz_25 : tz Tryz.prog 25 = some (Value.slice none 0 0) := by kernel_rfl
@[go_sem] theorem tzA_25 : tzA Tryz.prog 25 = (some (AV.v (Value.slice none 0 0)) : Option AV) := by kernel_rfl
@[go_sem] theorem t26 : TF 26 true 1 none none none none false (some false) 8 none none false := tf (by kernel_rfl)
@[go_sem] theorem tzA_26 : tzA Tryz.prog 26 = (some (AV.v Value.nilFunc) : Option AV) := by kernel_rfl
@[go_sem] theorem t27 : TF 27 true 1 none none none none false (some false) 8 none none false := tf (by kernel_rfl)
@[go_sem] theorem tzA_27 : tzA Tryz.prog 27 = (some (AV.v Value.nilFunc) : Option AV) := by kernel_rfl
@[go_sem] theorem t28 : TF 28 true 1 (some 25) none none none false (some false) 24 none none false := tf (by kernel_rfl)
@[go_sem] theorem tz_28 : tz Tryz.prog 28 = some (Value.slice none 0 0) := by kernel_rfl
@[go_sem] theorem tzA_28 : tzA Tryz.prog 28 = (some (AV.v (Value.slice none 0 0)) : Option AV) := by kernel_rfl
@[go_sem] theorem t29 : TF 29 true 1 none none none none false (some false) 8 none none false := tf (by kernel_rfl)
@[go_sem] theorem tzA_29 : tzA Tryz.prog 29 = (some (AV.v Value.nilFunc) : Option AV) := by kernel_rfl
@[go_sem] theorem t30 : TF 30 true 1 none none none none false (some false) 8 none none false := tf (by kernel_rfl)
@[go_sem] theorem tzA_30 : tzA Tryz.prog 30 = (some (AV.v Value.nilFunc) : Option AV) := by kernel_rfl
@[go_sem] theorem t31 : TF 31 true 1 none none none (some .i64) false (some false) 8 (some 0) none false := tf (by kernel_rfl)
@[go_sem] theorem tzA_31 : tzA Tryz.prog 31 = (some (AV.v (Value.int IntKind.i64 (0))) : Option AV) := by kernel_rfl
@[go_sem] theorem t32 : TF 32 true 1 none none none none false (some false) 0 none none false := tf (by kernel_rfl)
@[go_sem] theorem tzA_32 : tzA Tryz.prog 32 = (some (AV.tup [AV.v (Value.string ByteArray.empty), AV.v (Value.int IntKind.i64 (0))]) : Option AV) := by kernel_rfl
@[go_sem] theorem t33 : TF 33 true 1 none none none none false (some false) 8 none none false := tf (by kernel_rfl)
@[go_sem] theorem tzA_33 : tzA Tryz.prog 33 = (some (AV.v Value.nilFunc) : Option AV) := by kernel_rfl
@[go_sem] theorem t34 : TF 34 true 1 none none none none false (some false) 8 none none false := tf (by kernel_rfl)
@[go_sem] theorem tzA_34 : tzA Tryz.prog 34 = (some (AV.v Value.nilFunc) : Option AV) := by kernel_rfl
@[go_sem] theorem t35 : TF 35 true 1 none none none none false (some false) 8 none none false := tf (by kernel_rfl)
@[go_sem] theorem tzA_35 : tzA Tryz.prog 35 = (some (AV.v Value.nilFunc) : Option AV) := by kernel_rfl
@[go_sem] theorem t36 : TF 36 true 1 (some 9) none none none false (some false) 24 none none false := tf (by kernel_rfl)
@[go_sem] theorem tz_36 : tz Tryz.prog 36 = some (Value.slice none 0 0) := by kernel_rfl
@[go_sem] theorem tzA_36 : tzA Tryz.prog 36 = (some (AV.v (Value.slice none 0 0)) : Option AV) := by kernel_rfl
@[go_sem] theorem t37 : TF 37 true 1 none none none none false (some false) 8 none none false := tf (by kernel_rfl)
@[go_sem] theorem tzA_37 : tzA Tryz.prog 37 = (some (AV.v Value.nilFunc) : Option AV) := by kernel_rfl
@[go_sem] theorem t38 : TF 38 true 1 none none none none false (some false) 8 none none false := tf (by kernel_rfl)
@[go_sem] theorem tzA_38 : tzA Tryz.prog 38 = (some (AV.v Value.nilFunc) : Option AV) := by kernel_rfl
@[go_sem] theorem t39 : TF 39 true 1 none none none none false (some false) 0 none none false := tf (by kernel_rfl)
@[go_sem] theorem tzA_39 : tzA Tryz.prog 39 = (some (AV.tup [AV.v (Value.slice none 0 0), AV.v (Value.int IntKind.i64 (0))]) : Option AV) := by kernel_rfl
@[go_sem] theorem t40 : TF 40 true 1 none none none none false (some false) 8 none none false := tf (by kernel_rfl)
@[go_sem] theorem tzA_40 : tzA Tryz.prog 40 = (some (AV.v Value.nilFunc) : Option AV) := by kernel_rfl
@[go_sem] theorem t41 : TF 41 true 2 none (some (2, 3)) none none false (some true) 16 none none false := tf (by kernel_rfl)
@[go_sem] theorem tzA_41 : tzA Tryz.prog 41 = (some (AV.agg [AV.v (Value.int IntKind.i64 (0)), AV.v (Value.int IntKind.i64 (0))]) : Option AV) := by kernel_rfl
@[go_sem] theorem t42 : TF 42 true 1 (some 41) none none none false (some false) 24 none none false := tf (by kernel_rfl)
@[go_sem] theorem tz_42 : tz Tryz.prog 42 = some (Value.slice none 0 0) := by kernel_rfl
@[go_sem] theorem tzA_42 : tzA Tryz.prog 42 = (some (AV.v (Value.slice none 0 0)) : Option AV) := by kernel_rfl
@[go_sem] theorem t43 : TF 43 true 1 (some 66) none none none false (some false) 24 none none false := tf (by kernel_rfl)
@[go_sem] theorem tz_43 : tz Tryz.prog 43 = some (Value.slice none 0 0) := by kernel_rfl
@[go_sem] theorem tzA_43 : tzA Tryz.prog 43 = (some (AV.v (Value.slice none 0 0)) : Option AV) := by kernel_rfl
@[go_sem] theorem t44 : TF 44 true 1 none none none none false (some false) 0 none none false := tf (by kernel_rfl)
@[go_sem] theorem tzA_44 : tzA Tryz.prog 44 = (some (AV.tup [AV.v (Value.slice none 0 0), AV.v (Value.int IntKind.i64 (0))]) : Option AV) := by kernel_rfl
@[go_sem] theorem t45 : TF 45 true 1 none none none none false (some false) 8 none none false := tf (by kernel_rfl)
@[go_sem] theorem tzA_45 : tzA Tryz.prog 45 = (some (AV.v Value.nilFunc) : Option AV) := by kernel_rfl
@[go_sem] theorem t46 : TF 46 true 1 (some 64) none none none false (some false) 24 none none false := tf (by kernel_rfl)
@[go_sem] theorem tz_46 : tz Tryz.prog 46 = some (Value.slice none 0 0) := by kernel_rfl
@[go_sem] theorem tzA_46 : tzA Tryz.prog 46 = (some (AV.v (Value.slice none 0 0)) : Option AV) := by kernel_rfl
@[go_sem] theorem t47 : TF 47 true 1 none none none none false (some false) 0 none none false := tf (by kernel_rfl)
@[go_sem] theorem tzA_47 : tzA Tryz.prog 47 = (some (AV.tup [AV.v (Value.slice none 0 0), AV.v (Value.int IntKind.i64 (0))]) : Option AV) := by kernel_rfl
@[go_sem] theorem t48 : TF 48 true 1 none none none none false (some false) 8 none none false := tf (by kernel_rfl)
@[go_sem] theorem tzA_48 : tzA Tryz.prog 48 = (some (AV.v Value.nilFunc) : Option AV) := by kernel_rfl
@[go_sem] theorem t49 : TF 49 true 1 none none none none false (some false) 8 none none false := tf (by kernel_rfl)
@[go_sem] theorem tzA_49 : tzA Tryz.prog 49 = (some (AV.v Value.nilFunc) : Option AV) := by kernel_rfl
@[go_sem] theorem t50 : TF 50 true 1 none none none none false (some false) 8 none none false := tf (by kernel_rfl)
@[go_sem] theorem tzA_50 : tzA Tryz.prog 50 = (some (AV.v Value.nilFunc) : Option AV) := by kernel_rfl
@[go_sem] theorem t51 : TF 51 true 1 none none none none false (some false) 8 none none false := tf (by kernel_rfl)
@[go_sem] theorem tzA_51 : tzA Tryz.prog 51 = (some (AV.v Value.nilFunc) : Option AV) := by kernel_rfl
@[go_sem] theorem t52 : TF 52 true 1 (some 3) none none none false (some false) 24 none none false := tf (by kernel_rfl)
@[go_sem] theorem tz_52 : tz Tryz.prog 52 = some (Value.slice none 0 0) := by kernel_rfl
@[go_sem] theorem tzA_52 : tzA Tryz.prog 52 = (some (AV.v (Value.slice none 0 0)) : Option AV) := by kernel_rfl
@[go_sem] theorem t53 : TF 53 true 1 none none none none false (some false) 0 none none false := tf (by kernel_rfl)
@[go_sem] theorem tzA_53 : tzA Tryz.prog 53 = (some (AV.tup [AV.v (Value.int IntKind.i64 (0)), AV.v (Value.int IntKind.i64 (0))]) : Option AV) := by kernel_rfl
@[go_sem] theorem t54 : TF 54 true 1 none none none none false (some false) 8 none none false := tf (by kernel_rfl)
@[go_sem] theorem tzA_54 : tzA Tryz.prog 54 = (some (AV.v Value.nilFunc) : Option AV) := by kernel_rfl
@[go_sem] theorem t55 : TF 55 true 1 none none none none false (some false) 0 none none false := tf (by kernel_rfl)
@[go_sem] theorem tzA_55 : tzA Tryz.prog 55 = (some (AV.tup [AV.v (Value.slice none 0 0), AV.v (Value.int IntKind.i64 (0))]) : Option AV) := by kernel_rfl
@[go_sem] theorem t56 : TF 56 true 1 none none none none false (some false) 8 none none false := tf (by kernel_rfl)
@[go_sem] theorem tzA_56 : tzA Tryz.prog 56 = (some (AV.v Value.nilFunc) : Option AV) := by kernel_rfl
@[go_sem] theorem t57 : TF 57 true 1 none none none none false (some false) 8 none none false := tf (by kernel_rfl)
@[go_sem] theorem tzA_57 : tzA Tryz.prog 57 = (some (AV.v Value.nilFunc) : Option AV) := by kernel_rfl
@[go_sem] theorem t58 : TF 58 true 1 none none none none false (some false) 8 none none false := tf (by kernel_rfl)
@[go_sem] theorem tzA_58 : tzA Tryz.prog 58 = (some (AV.v Value.nilFunc) : Option AV) := by kernel_rfl
@[go_sem] theorem t59 : TF 59 true 1 none none none none false (some false) 0 none none false := tf (by kernel_rfl)
@[go_sem] theorem tzA_59 : tzA Tryz.prog 59 = (some (AV.tup [AV.v (Value.int IntKind.i64 (0)), AV.v (Value.int IntKind.i64 (0)), AV.v (Value.int IntKind.i64 (0))]) : Option AV) := by kernel_rfl
@[go_sem] theorem t60 : TF 60 true 1 none none none none false (some false) 8 none none false := tf (by kernel_rfl)
@[go_sem] theorem tzA_60 : tzA Tryz.prog 60 = (some (AV.v Value.nilFunc) : Option AV) := by kernel_rfl
@[go_sem] theorem t61 : TF 61 true 1 none none none none false (some false) 8 none none false := tf (by kernel_rfl)
@[go_sem] theorem tzA_61 : tzA Tryz.prog 61 = (some (AV.v Value.nilFunc) : Option AV) := by kernel_rfl
@[go_sem] theorem t62 : TF 62 true 1 none none none none false (some false) 8 none none false := tf (by kernel_rfl)
@[go_sem] theorem tzA_62 : tzA Tryz.prog 62 = (some (AV.v Value.nilFunc) : Option AV) := by kernel_rfl
@[go_sem] theorem t63 : TF 63 true 2 none none (some [(0, 3), (1, 3)]) none false (some true) 16 none (some [0, 0]) false := tf (by kernel_rfl)
@[go_sem] theorem tzA_63 : tzA Tryz.prog 63 = (some (AV.agg [AV.v (Value.int IntKind.i64 (0)), AV.v (Value.int IntKind.i64 (0))]) : Option AV) := by kernel_rfl
@[go_sem] theorem t64 : TF 64 true 2 none none (some [(0, 3), (1, 3)]) none false (some true) 16 none (some [0, 0]) false := tf (by kernel_rfl)
@[go_sem] theorem tzA_64 : tzA Tryz.prog 64 = (some (AV.agg [AV.v (Value.int IntKind.i64 (0)), AV.v (Value.int IntKind.i64 (0))]) : Option AV) := by kernel_rfl
@[go_sem] theorem t65 : TF 65 true 3 none none (some [(0, 64), (2, 3)]) none false (some true) 24 none (some [0, 0, 0]) false := tf (by kernel_rfl)
@[go_sem] theorem tzA_65 : tzA Tryz.prog 65 = (some (AV.agg [AV.v (Value.int IntKind.i64 (0)), AV.v (Value.int IntKind.i64 (0)), AV.v (Value.int IntKind.i64 (0))]) : Option AV) := by kernel_rfl
@[go_sem] theorem t66 : TF 66 true 3 none none (some [(0, 64), (2, 3)]) none false (some true) 24 none (some [0, 0, 0]) false := tf (by kernel_rfl)
@[go_sem] theorem tzA_66 : tzA Tryz.prog 66 = (some (AV.agg [AV.v (Value.int IntKind.i64 (0)), AV.v (Value.int IntKind.i64 (0)), AV.v (Value.int IntKind.i64 (0))]) : Option AV) := by kernel_rfl
@[go_sem] theorem t67 : TF 67 true 1 none none none none false (some false) 8 none none false := tf (by kernel_rfl)
@[go_sem] theorem tzA_67 : tzA Tryz.prog 67 = (some (AV.v Value.nilFunc) : Option AV) := by kernel_rfl
@[go_sem] theorem t68 : TF 68 true 1 (some 5) none none none false (some false) 24 none none false := tf (by kernel_rfl)
@[go_sem] theorem tz_68 : tz Tryz.prog 68 = some (Value.slice none 0 0) := by kernel_rfl
@[go_sem] theorem tzA_68 : tzA Tryz.prog 68 = (some (AV.v (Value.slice none 0 0)) : Option AV) := by kernel_rfl
@[go_sem] theorem t69 : TF 69 true 4 none none (some [(0, 64), (2, 3), (3, 3)]) none false (some true) 32 none (some [0, 0, 0, 0]) false := tf (by kernel_rfl)
@[go_sem] theorem tzA_69 : tzA Tryz.prog 69 = (some (AV.agg [AV.v (Value.int IntKind.i64 (0)), AV.v (Value.int IntKind.i64 (0)), AV.v (Value.int IntKind.i64 (0)), AV.v (Value.int IntKind.i64 (0))]) : Option AV) := by kernel_rfl
@[go_sem] theorem t70 : TF 70 true 4 none none (some [(0, 64), (2, 3), (3, 3)]) none false (some true) 32 none (some [0, 0, 0, 0]) false := tf (by kernel_rfl)
@[go_sem] theorem tzA_70 : tzA Tryz.prog 70 = (some (AV.agg [AV.v (Value.int IntKind.i64 (0)), AV.v (Value.int IntKind.i64 (0)), AV.v (Value.int IntKind.i64 (0)), AV.v (Value.int IntKind.i64 (0))]) : Option AV) := by kernel_rfl
@[go_sem] theorem t71 : TF 71 true 4 none (some (4, 3)) none none false (some true) 32 none none false := tf (by kernel_rfl)
@[go_sem] theorem tzA_71 : tzA Tryz.prog 71 = (some (AV.agg [AV.v (Value.int IntKind.i64 (0)), AV.v (Value.int IntKind.i64 (0)), AV.v (Value.int IntKind.i64 (0)), AV.v (Value.int IntKind.i64 (0))]) : Option AV) := by kernel_rfl
@[go_sem] theorem t72 : TF 72 true 1 none none none none false (some false) 8 none none false := tf (by kernel_rfl)
@[go_sem] theorem tzA_72 : tzA Tryz.prog 72 = (some (AV.v Value.nilFunc) : Option AV) := by kernel_rfl
@[go_sem] theorem t73 : TF 73 true 1 none none none none false (some false) 8 none none false := tf (by kernel_rfl)
@[go_sem] theorem tzA_73 : tzA Tryz.prog 73 = (some (AV.v Value.nilFunc) : Option AV) := by kernel_rfl
@[go_sem] theorem t74 : TF 74 true 1 none none none none false (some false) 8 none none false := tf (by kernel_rfl)
@[go_sem] theorem tzA_74 : tzA Tryz.prog 74 = (some (AV.v Value.nilFunc) : Option AV) := by kernel_rfl
@[go_sem] theorem t75 : TF 75 true 1 none none none none false (some false) 8 none none false := tf (by kernel_rfl)
@[go_sem] theorem tzA_75 : tzA Tryz.prog 75 = (some (AV.v Value.nilFunc) : Option AV) := by kernel_rfl
@[go_sem] theorem t76 : TF 76 true 1 none none none none false (some false) 8 none none false := tf (by kernel_rfl)
@[go_sem] theorem tzA_76 : tzA Tryz.prog 76 = (some (AV.v Value.nilFunc) : Option AV) := by kernel_rfl
@[go_sem] theorem t77 : TF 77 true 1 none none none none false (some false) 8 none none false := tf (by kernel_rfl)
@[go_sem] theorem tzA_77 : tzA Tryz.prog 77 = (some (AV.v Value.nilFunc) : Option AV) := by kernel_rfl
@[go_sem] theorem t78 : TF 78 true 1 none none none none false (some false) 8 none none false := tf (by kernel_rfl)
@[go_sem] theorem tzA_78 : tzA Tryz.prog 78 = (some (AV.v Value.nilFunc) : Option AV) := by kernel_rfl
@[go_sem] theorem t79 : TF 79 true 1 none none none none false (some false) 8 none none false := tf (by kernel_rfl)
@[go_sem] theorem tzA_79 : tzA Tryz.prog 79 = (some (AV.v Value.nilFunc) : Option AV) := by kernel_rfl
@[go_sem] theorem t80 : TF 80 true 1 none none none none false (some false) 8 none none false := tf (by kernel_rfl)
@[go_sem] theorem tzA_80 : tzA Tryz.prog 80 = (some (AV.v Value.nilFunc) : Option AV) := by kernel_rfl
@[go_sem] theorem t81 : TF 81 true 1 none none none none false (some false) 8 none none false := tf (by kernel_rfl)
@[go_sem] theorem tzA_81 : tzA Tryz.prog 81 = (some (AV.v Value.nilFunc) : Option AV) := by kernel_rfl
@[go_sem] theorem t82 : TF 82 true 1 (some 43) none none none false (some false) 24 none none false := tf (by kernel_rfl)
@[go_sem] theorem tz_82 : tz Tryz.prog 82 = some (Value.slice none 0 0) := by kernel_rfl
@[go_sem] theorem tzA_82 : tzA Tryz.prog 82 = (some (AV.v (Value.slice none 0 0)) : Option AV) := by kernel_rfl
@[go_sem] theorem t83 : TF 83 true 1 none none none none false (some false) 0 none none false := tf (by kernel_rfl)
@[go_sem] theorem tzA_83 : tzA Tryz.prog 83 = (some (AV.tup [AV.v (Value.slice none 0 0), AV.v (Value.bool false)]) : Option AV) := by kernel_rfl
@[go_sem] theorem t84 : TF 84 true 1 none none none none false (some false) 8 none none false := tf (by kernel_rfl)
@[go_sem] theorem tzA_84 : tzA Tryz.prog 84 = (some (AV.v Value.nilFunc) : Option AV) := by kernel_rfl
@[go_sem] theorem t85 : TF 85 true 1 none none none none false (some false) 0 none none false := tf (by kernel_rfl)
@[go_sem] theorem tzA_85 : tzA Tryz.prog 85 = (some (AV.tup [AV.v (Value.slice none 0 0), AV.v (Value.bool false)]) : Option AV) := by kernel_rfl
@[go_sem] theorem t86 : TF 86 true 1 none none none none false (some false) 8 none none false := tf (by kernel_rfl)
@[go_sem] theorem tzA_86 : tzA Tryz.prog 86 = (some (AV.v Value.nilFunc) : Option AV) := by kernel_rfl
@[go_sem] theorem t87 : TF 87 true 1 none none none none false (some false) 8 none none false := tf (by kernel_rfl)
@[go_sem] theorem tzA_87 : tzA Tryz.prog 87 = (some (AV.v Value.nilFunc) : Option AV) := by kernel_rfl
@[go_sem] theorem t88 : TF 88 true 1 none none none none false (some false) 8 none none false := tf (by kernel_rfl)
@[go_sem] theorem tzA_88 : tzA Tryz.prog 88 = (some (AV.v Value.nilFunc) : Option AV) := by kernel_rfl
@[go_sem] theorem t89 : TF 89 true 1 none none none none false (some false) 8 none none false := tf (by kernel_rfl)
@[go_sem] theorem tzA_89 : tzA Tryz.prog 89 = (some (AV.v Value.nilFunc) : Option AV) := by kernel_rfl
@[go_sem] theorem t90 : TF 90 true 1 none none none none false (some false) 8 none none false := tf (by kernel_rfl)
@[go_sem] theorem tzA_90 : tzA Tryz.prog 90 = (some (AV.v (Value.map none)) : Option AV) := by kernel_rfl
@[go_sem] theorem t91 : TF 91 true 1 none none none none false (some false) 8 none none false := tf (by kernel_rfl)
@[go_sem] theorem tzA_91 : tzA Tryz.prog 91 = (some (AV.v Value.nilFunc) : Option AV) := by kernel_rfl
@[go_sem] theorem t92 : TF 92 true 1 none none none none false (some false) 8 none none false := tf (by kernel_rfl)
@[go_sem] theorem tzA_92 : tzA Tryz.prog 92 = (some (AV.v Value.nilFunc) : Option AV) := by kernel_rfl
@[go_sem] theorem t93 : TF 93 true 1 none none none none false (some false) 8 none none false := tf (by kernel_rfl)
@[go_sem] theorem tzA_93 : tzA Tryz.prog 93 = (some (AV.v Value.nilFunc) : Option AV) := by kernel_rfl
@[go_sem] theorem t94 : TF 94 true 1 none none none none false (some false) 8 none none false := tf (by kernel_rfl)
@[go_sem] theorem tzA_94 : tzA Tryz.prog 94 = (some (AV.v Value.nilFunc) : Option AV) := by kernel_rfl
@[go_sem] theorem t95 : TF 95 true 1 none none none none false (some false) 8 none none false := tf (by kernel_rfl)
@[go_sem] theorem tzA_95 : tzA Tryz.prog 95 = (some (AV.v Value.nilFunc) : Option AV) := by kernel_rfl
@[go_sem] theorem t96 : TF 96 true 1 none none none none false (some false) 8 none none false := tf (by kernel_rfl)
@[go_sem] theorem tzA_96 : tzA Tryz.prog 96 = (some (AV.v Value.nilFunc) : Option AV) := by kernel_rfl
@[go_sem] theorem t97 : TF 97 true 1 none none none none false (some false) 8 none none false := tf (by kernel_rfl)
@[go_sem] theorem tzA_97 : tzA Tryz.prog 97 = (some (AV.v Value.nilFunc) : Option AV) := by kernel_rfl
@[go_sem] theorem t98 : TF 98 true 1 none none none none false (some false) 8 none none false := tf (by kernel_rfl)
@[go_sem] theorem tzA_98 : tzA Tryz.prog 98 = (some (AV.v Value.nilFunc) : Option AV) := by kernel_rfl
@[go_sem] theorem t99 : TF 99 true 1 none none none (some .u32) false (some false) 4 (some 0) none false := tf (by kernel_rfl)
@[go_sem] theorem tzA_99 : tzA Tryz.prog 99 = (some (AV.v (Value.int IntKind.u32 (0))) : Option AV) := by kernel_rfl
@[go_sem] theorem t100 : TF 100 true 1 (some 99) none none none false (some false) 24 none none false := tf (by kernel_rfl)
@[go_sem] theorem tz_100 : tz Tryz.prog 100 = some (Value.slice none 0 0) := by kernel_rfl
@[go_sem] theorem tzA_100 : tzA Tryz.prog 100 = (some (AV.v (Value.slice none 0 0)) : Option AV) := by kernel_rfl
@[go_sem] theorem t101 : TF 101 true 1 none none none none false (some false) 8 none none false := tf (by kernel_rfl)
@[go_sem] theorem tzA_101 : tzA Tryz.prog 101 = (some (AV.v Value.nilFunc) : Option AV) := by kernel_rfl
@[go_sem] theorem t102 : TF 102 true 1 none none none none false (some false) 8 none none false := tf (by kernel_rfl)
@[go_sem] theorem tzA_102 : tzA Tryz.prog 102 = (some (AV.v Value.nilFunc) : Option AV) := by kernel_rfl
@[go_sem] theorem t103 : TF 103 true 1 none none none (some .u64) false (some false) 8 (some 0) none false := tf (by kernel_rfl)
@[go_sem] theorem tzA_103 : tzA Tryz.prog 103 = (some (AV.v (Value.int IntKind.u64 (0))) : Option AV) := by kernel_rfl
@[go_sem] theorem t104 : TF 104 true 1 none none none none false (some false) 8 none none false := tf (by kernel_rfl)
@[go_sem] theorem tzA_104 : tzA Tryz.prog 104 = (some (AV.v Value.nilFunc) : Option AV) := by kernel_rfl
@[go_sem] theorem t105 : TF 105 true 1 none none none none false (some false) 8 none none false := tf (by kernel_rfl)
@[go_sem] theorem tzA_105 : tzA Tryz.prog 105 = (some (AV.v Value.nilFunc) : Option AV) := by kernel_rfl
@[go_sem] theorem t106 : TF 106 true 1 none none none none false (some false) 8 none none false := tf (by kernel_rfl)
@[go_sem] theorem tzA_106 : tzA Tryz.prog 106 = (some (AV.v Value.nilFunc) : Option AV) := by kernel_rfl
@[go_sem] theorem t107 : TF 107 true 1 none none none none false (some false) 8 none none false := tf (by kernel_rfl)
@[go_sem] theorem tzA_107 : tzA Tryz.prog 107 = (some (AV.v Value.nilFunc) : Option AV) := by kernel_rfl
@[go_sem] theorem t108 : TF 108 true 1 none none none none false (some false) 8 none none false := tf (by kernel_rfl)
@[go_sem] theorem tzA_108 : tzA Tryz.prog 108 = (some (AV.v Value.nilFunc) : Option AV) := by kernel_rfl
@[go_sem] theorem t109 : TF 109 true 1 none none none none false (some false) 8 none none false := tf (by kernel_rfl)
@[go_sem] theorem tzA_109 : tzA Tryz.prog 109 = (some (AV.v Value.nilFunc) : Option AV) := by kernel_rfl
@[go_sem] theorem t110 : TF 110 true 1 none none none none false (some false) 0 none none false := tf (by kernel_rfl)
@[go_sem] theorem tzA_110 : tzA Tryz.prog 110 = (some (AV.tup [AV.v (Value.int IntKind.i64 (0)), AV.v (Value.bool false)]) : Option AV) := by kernel_rfl
@[go_sem] theorem t111 : TF 111 true 1 none none none none false (some false) 8 none none false := tf (by kernel_rfl)
@[go_sem] theorem tzA_111 : tzA Tryz.prog 111 = (some (AV.v Value.nilFunc) : Option AV) := by kernel_rfl
@[go_sem] theorem t112 : TF 112 true 1 none none none none false (some false) 8 none none false := tf (by kernel_rfl)
@[go_sem] theorem tzA_112 : tzA Tryz.prog 112 = (some (AV.v Value.nilFunc) : Option AV) := by kernel_rfl
@[go_sem] theorem t113 : TF 113 true 1 none none none none false (some false) 8 none none false := tf (by kernel_rfl)
@[go_sem] theorem tzA_113 : tzA Tryz.prog 113 = (some (AV.v Value.nilFunc) : Option AV) := by kernel_rfl
@[go_sem] theorem t114 : TF 114 true 1 none none none none false (some false) 8 none none false := tf (by kernel_rfl)
@[go_sem] theorem tzA_114 : tzA Tryz.prog 114 = (some (AV.v Value.nilFunc) : Option AV) := by kernel_rfl
@[go_sem] theorem t115 : TF 115 true 1 none none none none false (some false) 8 none none false := tf (by kernel_rfl)
@[go_sem] theorem tzA_115 : tzA Tryz.prog 115 = (some (AV.v Value.nilFunc) : Option AV) := by kernel_rfl
@[go_sem] theorem t116 : TF 116 true 1 none none none none false (some false) 8 none none false := tf (by kernel_rfl)
@[go_sem] theorem tzA_116 : tzA Tryz.prog 116 = (some (AV.v Value.nilFunc) : Option AV) := by kernel_rfl
@[go_sem] theorem t117 : TF 117 true 1 none none none none false (some false) 8 none none false := tf (by kernel_rfl)
@[go_sem] theorem tzA_117 : tzA Tryz.prog 117 = (some (AV.v Value.nilFunc) : Option AV) := by kernel_rfl
@[go_sem] theorem t118 : TF 118 true 1 none none none none false (some false) 8 none none false := tf (by kernel_rfl)
@[go_sem] theorem tzA_118 : tzA Tryz.prog 118 = (some (AV.v Value.nilFunc) : Option AV) := by kernel_rfl
@[go_sem] theorem t119 : TF 119 true 1 none none none none false (some false) 8 none none false := tf (by kernel_rfl)
@[go_sem] theorem tzA_119 : tzA Tryz.prog 119 = (some (AV.v Value.nilFunc) : Option AV) := by kernel_rfl
@[go_sem] theorem t120 : TF 120 true 1 none none none none false (some false) 8 none none false := tf (by kernel_rfl)
@[go_sem] theorem tzA_120 : tzA Tryz.prog 120 = (some (AV.v Value.nilFunc) : Option AV) := by kernel_rfl
@[go_sem] theorem t121 : TF 121 true 1 none none none none false (some false) 8 none none false := tf (by kernel_rfl)
@[go_sem] theorem tzA_121 : tzA Tryz.prog 121 = (some (AV.v Value.nilFunc) : Option AV) := by kernel_rfl
@[go_sem] theorem t122 : TF 122 true 1 none none none (some .u64) false (some false) 8 (some 0) none false := tf (by kernel_rfl)
@[go_sem] theorem tzA_122 : tzA Tryz.prog 122 = (some (AV.v (Value.int IntKind.u64 (0))) : Option AV) := by kernel_rfl
@[go_sem] theorem t123 : TF 123 true 1 none none none none false (some false) 8 none none false := tf (by kernel_rfl)
@[go_sem] theorem tzA_123 : tzA Tryz.prog 123 = (some (AV.v Value.nilFunc) : Option AV) := by kernel_rfl
@[go_sem] theorem t124 : TF 124 true 1 none none none none false (some false) 8 none none false := tf (by kernel_rfl)
@[go_sem] theorem tzA_124 : tzA Tryz.prog 124 = (some (AV.v Value.nilFunc) : Option AV) := by kernel_rfl
@[go_sem] theorem t125 : TF 125 true 1 none none none none false (some false) 8 none none false := tf (by kernel_rfl)
@[go_sem] theorem tzA_125 : tzA Tryz.prog 125 = (some (AV.v Value.nilFunc) : Option AV) := by kernel_rfl
@[go_sem] theorem t126 : TF 126 true 1 none none none none false (some false) 8 none none false := tf (by kernel_rfl)
@[go_sem] theorem tzA_126 : tzA Tryz.prog 126 = (some (AV.v Value.nilFunc) : Option AV) := by kernel_rfl
@[go_sem] theorem t127 : TF 127 true 1 none none none none false (some false) 8 none none false := tf (by kernel_rfl)
@[go_sem] theorem tzA_127 : tzA Tryz.prog 127 = (some (AV.v Value.nilFunc) : Option AV) := by kernel_rfl
@[go_sem] theorem t128 : TF 128 true 1 none none none none false (some false) 8 none none false := tf (by kernel_rfl)
@[go_sem] theorem tzA_128 : tzA Tryz.prog 128 = (some (AV.v Value.nilFunc) : Option AV) := by kernel_rfl
@[go_sem] theorem t129 : TF 129 true 1 none none none none false (some false) 8 none none false := tf (by kernel_rfl)
@[go_sem] theorem tzA_129 : tzA Tryz.prog 129 = (some (AV.v Value.nilFunc) : Option AV) := by kernel_rfl
@[go_sem] theorem t130 : TF 130 true 1 none none none none false (some false) 0 none none false := tf (by kernel_rfl)
@[go_sem] theorem tzA_130 : tzA Tryz.prog 130 = (some (AV.tup [AV.v (Value.slice none 0 0), AV.v (Value.int IntKind.i64 (0)), AV.v (Value.int IntKind.i64 (0))]) : Option AV) := by kernel_rfl
@[go_sem] theorem t131 : TF 131 true 1 none none none none false (some false) 8 none none false := tf (by kernel_rfl)
@[go_sem] theorem tzA_131 : tzA Tryz.prog 131 = (some (AV.v Value.nilFunc) : Option AV) := by kernel_rfl
@[go_sem] theorem t132 : TF 132 true 1 none none none none false (some false) 8 none none false := tf (by kernel_rfl)
@[go_sem] theorem tzA_132 : tzA Tryz.prog 132 = (some (AV.v Value.nilFunc) : Option AV) := by kernel_rfl
@[go_sem] theorem t133 : TF 133 true 1 none none none none false (some false) 8 none none false := tf (by kernel_rfl)
@[go_sem] theorem tzA_133 : tzA Tryz.prog 133 = (some (AV.v Value.nilFunc) : Option AV) := by kernel_rfl
@[go_sem] theorem t134 : TF 134 true 1 none none none (some .i64) false (some false) 8 (some 0) none false := tf (by kernel_rfl)
@[go_sem] theorem tzA_134 : tzA Tryz.prog 134 = (some (AV.v (Value.int IntKind.i64 (0))) : Option AV) := by kernel_rfl
@[go_sem] theorem t135 : TF 135 true 1 none none none none false (some false) 0 none none false := tf (by kernel_rfl)
@[go_sem] theorem tzA_135 : tzA Tryz.prog 135 = (some (AV.tup [AV.v (Value.int IntKind.i64 (0)), AV.v (Value.int IntKind.i64 (0))]) : Option AV) := by kernel_rfl
@[go_sem] theorem t136 : TF 136 true 1 none none none none false (some false) 8 none none false := tf (by kernel_rfl)
@[go_sem] theorem tzA_136 : tzA Tryz.prog 136 = (some (AV.v Value.nilFunc) : Option AV) := by kernel_rfl
@[go_sem] theorem t137 : TF 137 true 1 none none none none false (some false) 8 none none false := tf (by kernel_rfl)
@[go_sem] theorem tzA_137 : tzA Tryz.prog 137 = (some (AV.v Value.nilFunc) : Option AV) := by kernel_rfl
@[go_sem] theorem t138 : TF 138 true 1 none none none none false (some false) 8 none none false := tf (by kernel_rfl)
@[go_sem] theorem tzA_138 : tzA Tryz.prog 138 = (some (AV.v Value.nilFunc) : Option AV) := by kernel_rfl
@[go_sem] theorem t139 : TF 139 true 1 none none none none false (some false) 8 none none false := tf (by kernel_rfl)
@[go_sem] theorem tzA_139 : tzA Tryz.prog 139 = (some (AV.v Value.nilFunc) : Option AV) := by kernel_rfl
@[go_sem] theorem t140 : TF 140 true 1 none none none none false (some false) 8 none none false := tf (by kernel_rfl)
@[go_sem] theorem tzA_140 : tzA Tryz.prog 140 = (some (AV.v Value.nilFunc) : Option AV) := by kernel_rfl
@[go_sem] theorem t141 : TF 141 true 1 none none none none false (some false) 8 none none false := tf (by kernel_rfl)
@[go_sem] theorem tzA_141 : tzA Tryz.prog 141 = (some (AV.v Value.nilFunc) : Option AV) := by kernel_rfl
@[go_sem] theorem t142 : TF 142 true 1 none none none none false (some false) 8 none none false := tf (by kernel_rfl)
@[go_sem] theorem tzA_142 : tzA Tryz.prog 142 = (some (AV.v Value.nilFunc) : Option AV) := by kernel_rfl
@[go_sem] theorem t143 : TF 143 true 8 none (some (8, 99)) none none false (some true) 32 none none false := tf (by kernel_rfl)
@[go_sem] theorem tzA_143 : tzA Tryz.prog 143 = (some (AV.agg [AV.v (Value.int IntKind.u32 (0)), AV.v (Value.int IntKind.u32 (0)), AV.v (Value.int IntKind.u32 (0)), AV.v (Value.int IntKind.u32 (0)), AV.v (Value.int IntKind.u32 (0)), AV.v (Value.int IntKind.u32 (0)), AV.v (Value.int IntKind.u32 (0)), AV.v (Value.int IntKind.u32 (0))]) : Option AV) := by kernel_rfl
@[go_sem] theorem t144 : TF 144 true 8 none (some (8, 99)) none none false (some true) 32 none none false := tf (by kernel_rfl)
@[go_sem] theorem tzA_144 : tzA Tryz.prog 144 = (some (AV.agg [AV.v (Value.int IntKind.u32 (0)), AV.v (Value.int IntKind.u32 (0)), AV.v (Value.int IntKind.u32 (0)), AV.v (Value.int IntKind.u32 (0)), AV.v (Value.int IntKind.u32 (0)), AV.v (Value.int IntKind.u32 (0)), AV.v (Value.int IntKind.u32 (0)), AV.v (Value.int IntKind.u32 (0))]) : Option AV) := by kernel_rfl
@[go_sem] theorem t145 : TF 145 true 1 none none none none false (some false) 8 none none false := tf (by kernel_rfl)
@[go_sem] theorem tzA_145 : tzA Tryz.prog 145 = (some (AV.v Value.nilFunc) : Option AV) := by kernel_rfl
@[go_sem] theorem t146 : TF 146 true 1 none none none none false (some false) 8 none none false := tf (by kernel_rfl)
@[go_sem] theorem tzA_146 : tzA Tryz.prog 146 = (some (AV.v Value.nilFunc) : Option AV) := by kernel_rfl
@[go_sem] theorem t147 : TF 147 true 1 none none none none false (some false) 8 none none false := tf (by kernel_rfl)
@[go_sem] theorem tzA_147 : tzA Tryz.prog 147 = (some (AV.v Value.nilFunc) : Option AV) := by kernel_rfl
@[go_sem] theorem t148 : TF 148 true 1 none none none none false (some false) 8 none none false := tf (by kernel_rfl)
@[go_sem] theorem tzA_148 : tzA Tryz.prog 148 = (some (AV.v Value.nilFunc) : Option AV) := by kernel_rfl
@[go_sem] theorem t149 : TF 149 true 1 none none none none false (some false) 8 none none false := tf (by kernel_rfl)
@[go_sem] theorem tzA_149 : tzA Tryz.prog 149 = (some (AV.v Value.nilFunc) : Option AV) := by kernel_rfl
@[go_sem] theorem t150 : TF 150 true 1 none none none none false (some false) 8 none none true := tf (by kernel_rfl)
@[go_sem] theorem tzA_150 : tzA Tryz.prog 150 = (some (AV.v (Value.pointer none)) : Option AV) := by kernel_rfl
@[go_sem] theorem t151 : TF 151 true 2 none none (some [(0, 150), (1, 68)]) none false (some true) 32 none none false := tf (by kernel_rfl)
@[go_sem] theorem tzA_151 : tzA Tryz.prog 151 = (some (AV.agg [AV.v (Value.pointer none), AV.v (Value.slice none 0 0)]) : Option AV) := by kernel_rfl
@[go_sem] theorem t152 : TF 152 true 2 none none (some [(0, 150), (1, 68)]) none false (some true) 32 none none false := tf (by kernel_rfl)
@[go_sem] theorem tzA_152 : tzA Tryz.prog 152 = (some (AV.agg [AV.v (Value.pointer none), AV.v (Value.slice none 0 0)]) : Option AV) := by kernel_rfl
@[go_sem] theorem t153 : TF 153 true 1 none none none none false (some false) 8 none none false := tf (by kernel_rfl)
@[go_sem] theorem tzA_153 : tzA Tryz.prog 153 = (some (AV.v Value.nilFunc) : Option AV) := by kernel_rfl
@[go_sem] theorem t154 : TF 154 true 1 none none none none false (some false) 16 none none false := tf (by kernel_rfl)
@[go_sem] theorem tzA_154 : tzA Tryz.prog 154 = (some (AV.v Value.nilIface) : Option AV) := by kernel_rfl
@[go_sem] theorem t155 : TF 155 true 1 none none none none false (some false) 16 none none false := tf (by kernel_rfl)
@[go_sem] theorem tzA_155 : tzA Tryz.prog 155 = (some (AV.v Value.nilIface) : Option AV) := by kernel_rfl
@[go_sem] theorem t156 : TF 156 true 1 none none none none false (some false) 0 none none false := tf (by kernel_rfl)
@[go_sem] theorem tzA_156 : tzA Tryz.prog 156 = (some (AV.tup [AV.v (Value.int IntKind.i64 (0)), AV.v Value.nilIface]) : Option AV) := by kernel_rfl
@[go_sem] theorem t157 : TF 157 true 1 none none none none false (some false) 8 none none false := tf (by kernel_rfl)
@[go_sem] theorem tzA_157 : tzA Tryz.prog 157 = (some (AV.v Value.nilFunc) : Option AV) := by kernel_rfl
@[go_sem] theorem t158 : TF 158 true 1 none none none none false (some false) 8 none none false := tf (by kernel_rfl)
@[go_sem] theorem tzA_158 : tzA Tryz.prog 158 = (some (AV.v Value.nilFunc) : Option AV) := by kernel_rfl
@[go_sem] theorem t159 : TF 159 true 1 none none none none false (some false) 8 none none false := tf (by kernel_rfl)
@[go_sem] theorem tzA_159 : tzA Tryz.prog 159 = (some (AV.v Value.nilFunc) : Option AV) := by kernel_rfl
@[go_sem] theorem t160 : TF 160 true 1 none none none (some .u64) false (some false) 8 (some 0) none false := tf (by kernel_rfl)
@[go_sem] theorem tzA_160 : tzA Tryz.prog 160 = (some (AV.v (Value.int IntKind.u64 (0))) : Option AV) := by kernel_rfl
@[go_sem] theorem t161 : TF 161 true 1 none none none none false (some false) 8 none none false := tf (by kernel_rfl)
@[go_sem] theorem tzA_161 : tzA Tryz.prog 161 = (some (AV.v Value.nilFunc) : Option AV) := by kernel_rfl
@[go_sem] theorem t162 : TF 162 true 1 none none none none false (some false) 8 none none false := tf (by kernel_rfl)
@[go_sem] theorem tzA_162 : tzA Tryz.prog 162 = (some (AV.v Value.nilFunc) : Option AV) := by kernel_rfl
@[go_sem] theorem t163 : TF 163 true 1 none none none none false (some false) 8 none none false := tf (by kernel_rfl)
@[go_sem] theorem tzA_163 : tzA Tryz.prog 163 = (some (AV.v Value.nilFunc) : Option AV) := by kernel_rfl
@[go_sem] theorem t164 : TF 164 true 1 none none none none false (some false) 8 none none true := tf (by kernel_rfl)
@[go_sem] theorem tzA_164 : tzA Tryz.prog 164 = (some (AV.v (Value.pointer none)) : Option AV) := by kernel_rfl
@[go_sem] theorem t165 : TF 165 true 1 none none none none false (some false) 8 none none false := tf (by kernel_rfl)
@[go_sem] theorem tzA_165 : tzA Tryz.prog 165 = (some (AV.v Value.nilFunc) : Option AV) := by kernel_rfl
@[go_sem] theorem t166 : TF 166 true 1 none none none none false (some false) 8 none none false := tf (by kernel_rfl)
@[go_sem] theorem tzA_166 : tzA Tryz.prog 166 = (some (AV.v Value.nilFunc) : Option AV) := by kernel_rfl
@[go_sem] theorem t167 : TF 167 true 1 none none none none false (some false) 8 none none true := tf (by kernel_rfl)
@[go_sem] theorem tzA_167 : tzA Tryz.prog 167 = (some (AV.v (Value.pointer none)) : Option AV) := by kernel_rfl
@[go_sem] theorem t168 : TF 168 true 64 none (some (64, 99)) none none false (some true) 256 none none false := tf (by kernel_rfl)
@[go_sem] theorem tzA_168 : tzA Tryz.prog 168 = (some (AV.agg [AV.v (Value.int IntKind.u32 (0)), AV.v (Value.int IntKind.u32 (0)), AV.v (Value.int IntKind.u32 (0)), AV.v (Value.int IntKind.u32 (0)), AV.v (Value.int IntKind.u32 (0)), AV.v (Value.int IntKind.u32 (0)), AV.v (Value.int IntKind.u32 (0)), AV.v (Value.int IntKind.u32 (0)), AV.v (Value.int IntKind.u32 (0)), AV.v (Value.int IntKind.u32 (0)), AV.v (Value.int IntKind.u32 (0)), AV.v (Value.int IntKind.u32 (0)), AV.v (Value.int IntKind.u32 (0)), AV.v (Value.int IntKind.u32 (0)), AV.v (Value.int IntKind.u32 (0)), AV.v (Value.int IntKind.u32 (0)), AV.v (Value.int IntKind.u32 (0)), AV.v (Value.int IntKind.u32 (0)), AV.v (Value.int IntKind.u32 (0)), AV.v (Value.int IntKind.u32 (0)), AV.v (Value.int IntKind.u32 (0)), AV.v (Value.int IntKind.u32 (0)), AV.v (Value.int IntKind.u32 (0)), AV.v (Value.int IntKind.u32 (0)), AV.v (Value.int IntKind.u32 (0)), AV.v (Value.int IntKind.u32 (0)), AV.v (Value.int IntKind.u32 (0)), AV.v (Value.int IntKind.u32 (0)), AV.v (Value.int IntKind.u32 (0)), AV.v (Value.int IntKind.u32 (0)), AV.v (Value.int IntKind.u32 (0)), AV.v (Value.int IntKind.u32 (0)), AV.v (Value.int IntKind.u32 (0)), AV.v (Value.int IntKind.u32 (0)), AV.v (Value.int IntKind.u32 (0)), AV.v (Value.int IntKind.u32 (0)), AV.v (Value.int IntKind.u32 (0)), AV.v (Value.int IntKind.u32 (0)), AV.v (Value.int IntKind.u32 (0)), AV.v (Value.int IntKind.u32 (0)), AV.v (Value.int IntKind.u32 (0)), AV.v (Value.int IntKind.u32 (0)), AV.v (Value.int IntKind.u32 (0)), AV.v (Value.int IntKind.u32 (0)), AV.v (Value.int IntKind.u32 (0)), AV.v (Value.int IntKind.u32 (0)), AV.v (Value.int IntKind.u32 (0)), AV.v (Value.int IntKind.u32 (0)), AV.v (Value.int IntKind.u32 (0)), AV.v (Value.int IntKind.u32 (0)), AV.v (Value.int IntKind.u32 (0)), AV.v (Value.int IntKind.u32 (0)), AV.v (Value.int IntKind.u32 (0)), AV.v (Value.int IntKind.u32 (0)), AV.v (Value.int IntKind.u32 (0)), AV.v (Value.int IntKind.u32 (0)), AV.v (Value.int IntKind.u32 (0)), AV.v (Value.int IntKind.u32 (0)), AV.v (Value.int IntKind.u32 (0)), AV.v (Value.int IntKind.u32 (0)), AV.v (Value.int IntKind.u32 (0)), AV.v (Value.int IntKind.u32 (0)), AV.v (Value.int IntKind.u32 (0)), AV.v (Value.int IntKind.u32 (0))]) : Option AV) := by kernel_rfl
@[go_sem] theorem t169 : TF 169 true 1 none none none none false (some false) 8 none none false := tf (by kernel_rfl)
@[go_sem] theorem tzA_169 : tzA Tryz.prog 169 = (some (AV.v Value.nilFunc) : Option AV) := by kernel_rfl
@[go_sem] theorem t170 : TF 170 true 1 none none none none false (some false) 8 none none false := tf (by kernel_rfl)
@[go_sem] theorem tzA_170 : tzA Tryz.prog 170 = (some (AV.v Value.nilFunc) : Option AV) := by kernel_rfl
@[go_sem] theorem t171 : TF 171 true 32 none (some (32, 5)) none none false (some true) 32 none none false := tf (by kernel_rfl)
@[go_sem] theorem tzA_171 : tzA Tryz.prog 171 = (some (AV.agg [AV.v (Value.int IntKind.u8 (0)), AV.v (Value.int IntKind.u8 (0)), AV.v (Value.int IntKind.u8 (0)), AV.v (Value.int IntKind.u8 (0)), AV.v (Value.int IntKind.u8 (0)), AV.v (Value.int IntKind.u8 (0)), AV.v (Value.int IntKind.u8 (0)), AV.v (Value.int IntKind.u8 (0)), AV.v (Value.int IntKind.u8 (0)), AV.v (Value.int IntKind.u8 (0)), AV.v (Value.int IntKind.u8 (0)), AV.v (Value.int IntKind.u8 (0)), AV.v (Value.int IntKind.u8 (0)), AV.v (Value.int IntKind.u8 (0)), AV.v (Value.int IntKind.u8 (0)), AV.v (Value.int IntKind.u8 (0)), AV.v (Value.int IntKind.u8 (0)), AV.v (Value.int IntKind.u8 (0)), AV.v (Value.int IntKind.u8 (0)), AV.v (Value.int IntKind.u8 (0)), AV.v (Value.int IntKind.u8 (0)), AV.v (Value.int IntKind.u8 (0)), AV.v (Value.int IntKind.u8 (0)), AV.v (Value.int IntKind.u8 (0)), AV.v (Value.int IntKind.u8 (0)), AV.v (Value.int IntKind.u8 (0)), AV.v (Value.int IntKind.u8 (0)), AV.v (Value.int IntKind.u8 (0)), AV.v (Value.int IntKind.u8 (0)), AV.v (Value.int IntKind.u8 (0)), AV.v (Value.int IntKind.u8 (0)), AV.v (Value.int IntKind.u8 (0))]) : Option AV) := by kernel_rfl
@[go_sem] theorem t172 : TF 172 true 1 none none none none false (some false) 8 none none true := tf (by kernel_rfl)
@[go_sem] theorem tzA_172 : tzA Tryz.prog 172 = (some (AV.v (Value.pointer none)) : Option AV) := by kernel_rfl
@[go_sem] theorem t173 : TF 173 true 1 none none none none false (some false) 8 none none true := tf (by kernel_rfl)
@[go_sem] theorem tzA_173 : tzA Tryz.prog 173 = (some (AV.v (Value.pointer none)) : Option AV) := by kernel_rfl
@[go_sem] theorem t174 : TF 174 true 1 none none none none false (some false) 0 none none false := tf (by kernel_rfl)
@[go_sem] theorem tzA_174 : tzA Tryz.prog 174 = (some (AV.tup [AV.v (Value.int IntKind.i64 (0)), AV.v (Value.int IntKind.i64 (0))]) : Option AV) := by kernel_rfl
@[go_sem] theorem t175 : TF 175 true 1 none none none none false (some false) 8 none none false := tf (by kernel_rfl)
@[go_sem] theorem tzA_175 : tzA Tryz.prog 175 = (some (AV.v Value.nilFunc) : Option AV) := by kernel_rfl
@[go_sem] theorem t176 : TF 176 true 1 none none none none false (some false) 8 none none true := tf (by kernel_rfl)
@[go_sem] theorem tzA_176 : tzA Tryz.prog 176 = (some (AV.v (Value.pointer none)) : Option AV) := by kernel_rfl
@[go_sem] theorem t177 : TF 177 true 1 none none none none false (some false) 8 none none false := tf (by kernel_rfl)
@[go_sem] theorem tzA_177 : tzA Tryz.prog 177 = (some (AV.v Value.nilFunc) : Option AV) := by kernel_rfl
@[go_sem] theorem t178 : TF 178 true 1 none none none none false (some false) 8 none none false := tf (by kernel_rfl)
@[go_sem] theorem tzA_178 : tzA Tryz.prog 178 = (some (AV.v Value.nilFunc) : Option AV) := by kernel_rfl
@[go_sem] theorem t179 : TF 179 true 4 none none (some [(0, 17), (1, 17), (2, 17), (3, 9)]) none false (some true) 40 none none false := tf (by kernel_rfl)
@[go_sem] theorem tzA_179 : tzA Tryz.prog 179 = (some (AV.agg [AV.v (Value.pointer none), AV.v (Value.pointer none), AV.v (Value.pointer none), AV.v (Value.string ByteArray.empty)]) : Option AV) := by kernel_rfl
@[go_sem] theorem t180 : TF 180 true 4 none none (some [(0, 17), (1, 17), (2, 17), (3, 9)]) none false (some true) 40 none none false := tf (by kernel_rfl)
@[go_sem] theorem tzA_180 : tzA Tryz.prog 180 = (some (AV.agg [AV.v (Value.pointer none), AV.v (Value.pointer none), AV.v (Value.pointer none), AV.v (Value.string ByteArray.empty)]) : Option AV) := by kernel_rfl
@[go_sem] theorem t181 : TF 181 true 0 none (some (0, 16)) none none false (some true) 0 none none false := tf (by kernel_rfl)
@[go_sem] theorem tzA_181 : tzA Tryz.prog 181 = (some (AV.agg []) : Option AV) := by kernel_rfl
@[go_sem] theorem t182 : TF 182 true 0 none none (some [(0, 181)]) none false (some true) 0 none none false := tf (by kernel_rfl)
@[go_sem] theorem tzA_182 : tzA Tryz.prog 182 = (some (AV.agg []) : Option AV) := by kernel_rfl
@[go_sem] theorem t183 : TF 183 true 0 none none (some [(0, 181)]) none false (some true) 0 none none false := tf (by kernel_rfl)
@[go_sem] theorem tzA_183 : tzA Tryz.prog 183 = (some (AV.agg []) : Option AV) := by kernel_rfl
@[go_sem] theorem t184 : TF 184 true 1 none none none none false (some false) 8 none none false := tf (by kernel_rfl)
@[go_sem] theorem tzA_184 : tzA Tryz.prog 184 = (some (AV.v Value.nilFunc) : Option AV) := by kernel_rfl
@[go_sem] theorem t185 : TF 185 true 1 none none none (some .u8) false (some false) 1 (some 0) none false := tf (by kernel_rfl)
@[go_sem] theorem tzA_185 : tzA Tryz.prog 185 = (some (AV.v (Value.int IntKind.u8 (0))) : Option AV) := by kernel_rfl
@[go_sem] theorem t186 : TF 186 true 1 none none none (some .u8) false (some false) 1 (some 0) none false := tf (by kernel_rfl)
@[go_sem] theorem tzA_186 : tzA Tryz.prog 186 = (some (AV.v (Value.int IntKind.u8 (0))) : Option AV) := by kernel_rfl
@[go_sem] theorem t187 : TF 187 true 1 none none none none false (some false) 8 none none false := tf (by kernel_rfl)
@[go_sem] theorem tzA_187 : tzA Tryz.prog 187 = (some (AV.v Value.nilFunc) : Option AV) := by kernel_rfl
@[go_sem] theorem t188 : TF 188 true 1 none none none (some .i32) false (some false) 4 (some 0) none false := tf (by kernel_rfl)
@[go_sem] theorem tzA_188 : tzA Tryz.prog 188 = (some (AV.v (Value.int IntKind.i32 (0))) : Option AV) := by kernel_rfl
@[go_sem] theorem t189 : TF 189 true 1 none none none (some .i32) false (some false) 4 (some 0) none false := tf (by kernel_rfl)
@[go_sem] theorem tzA_189 : tzA Tryz.prog 189 = (some (AV.v (Value.int IntKind.i32 (0))) : Option AV) := by kernel_rfl
@[go_sem] theorem t190 : TF 190 true 11 none none (some [(0, 12), (1, 12), (2, 99), (3, 185), (4, 5), (5, 5), (6, 186), (7, 187), (8, 172), (9, 188), (10, 189)]) none false (some true) 48 none none false := tf (by kernel_rfl)
@[go_sem] theorem tzA_190 : tzA Tryz.prog 190 = (some (AV.agg [AV.v (Value.int IntKind.u64 (0)), AV.v (Value.int IntKind.u64 (0)), AV.v (Value.int IntKind.u32 (0)), AV.v (Value.int IntKind.u8 (0)), AV.v (Value.int IntKind.u8 (0)), AV.v (Value.int IntKind.u8 (0)), AV.v (Value.int IntKind.u8 (0)), AV.v Value.nilFunc, AV.v (Value.pointer none), AV.v (Value.int IntKind.i32 (0)), AV.v (Value.int IntKind.i32 (0))]) : Option AV) := by kernel_rfl
@[go_sem] theorem t191 : TF 191 true 11 none none (some [(0, 12), (1, 12), (2, 99), (3, 185), (4, 5), (5, 5), (6, 186), (7, 187), (8, 172), (9, 188), (10, 189)]) none false (some true) 48 none none false := tf (by kernel_rfl)
@[go_sem] theorem tzA_191 : tzA Tryz.prog 191 = (some (AV.agg [AV.v (Value.int IntKind.u64 (0)), AV.v (Value.int IntKind.u64 (0)), AV.v (Value.int IntKind.u32 (0)), AV.v (Value.int IntKind.u8 (0)), AV.v (Value.int IntKind.u8 (0)), AV.v (Value.int IntKind.u8 (0)), AV.v (Value.int IntKind.u8 (0)), AV.v Value.nilFunc, AV.v (Value.pointer none), AV.v (Value.int IntKind.i32 (0)), AV.v (Value.int IntKind.i32 (0))]) : Option AV) := by kernel_rfl
theorem tagg_168 : tagg Tryz.prog 168 = (some true : Option Bool) := by kernel_rfl
theorem tarr_144 : tarr Tryz.prog 144 = (some (8, 99) : Option (Nat × TypeId)) := by kernel_rfl
theorem tarr_171 : tarr Tryz.prog 171 = (some (32, 5) : Option (Nat × TypeId)) := by kernel_rfl
theorem tel_100 : tel Tryz.prog 100 = (some 99 : Option TypeId) := by kernel_rfl
theorem tel_68 : tel Tryz.prog 68 = (some 5 : Option TypeId) := by kernel_rfl
theorem tsz_168 : tsz Tryz.prog 168 = 64 := by kernel_rfl
theorem tsz_5 : tsz Tryz.prog 5 = 1 := by kernel_rfl
theorem tsz_99 : tsz Tryz.prog 99 = 1 := by kernel_rfl
attribute [go_sem] ne_eq not_true_eq_false not_false_eq_true decide_true decide_false List.length_map
end Go.Proofs.YthkihocapdfonaaGreatDoor
attribute [go_sem_proc ↓] reduceIte
attribute [go_sem_proc] Nat.reduceEqDiff Nat.reduceMul Nat.reduceAdd Nat.reduceDiv Nat.reduceBEq Nat.reduceLeDiff Int.reduceToNat Int.reduceNe Int.reduceEq Int.reduceLT Int.reduceLE Int.reduceBEq Int.reduceBNe

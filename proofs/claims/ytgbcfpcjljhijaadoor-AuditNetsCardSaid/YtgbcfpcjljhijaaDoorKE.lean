/- A heap-free account of the walk, fifth part; facts about types -/
import Derived.Test.YtgbcfpcjljhijaaDoorKD
import Derived.Lib.UnsafeStr
import Derived.Laws.Externs
import Derived.DeepKeys
import Derived.Test.YtgbcfpcjljhijaaDoorProg
set_option linter.unusedVariables false
set_option linter.unusedSimpArgs false
namespace Go.Vai
open Go.RowKit
section
variable {S : Sp} {dst : Option Nat} {ty : TypeId} {K : Env → Store → Prop} {E : Env} {σ : Store}
theorem semD_pure {op : Op} (r : AV) (hfit : (dst.all (decide <| · < S.N) && Op.low S.N op) = true) (hdf : ∀ c, op ≠ .defer c)
    (h : ∀ (C : Fx) (w : World) (ρ : Nat → Option Nat) (Im : Nat → Prop) (M : Str) (a : Act), Holds S C → Wit C E σ a w ρ Im M → (∀ u ∈ op.operands, Rep w ρ Im (ev E u) (a.eval u)) →
      ∃ y, (∀ pos after guard, (execOp a.eval ⟨dst, op, ty, pos, after, guard⟩).run S.P w = .ok (.value y) w) ∧ Rep w ρ Im r y) (hK : K (updO E dst r) σ) : semD S dst op ty K E σ := by
  intro pos after guard C H n a w Kc Q ⟨ρ, Im, M, hw⟩ hKc
  simp only [Bool.and_eq_true] at hfit
  obtain ⟨hdst, hlow⟩ := hfit
  have hdst' : ∀ d, dst = some d → d < C.N := fun d hd => by subst hd; rw [← H.N]; simpa using hdst
  have rep : ∀ u ∈ op.operands, Rep w ρ Im (ev E u) (a.eval u) := fun u hu => ev_rep hw.env (by rw [hw.size, ← H.N]; exact low_of hlow hu)
  obtain ⟨y, hrun, hr⟩ := h C w ρ Im M a H hw rep
  exact wpIn_value hdf (hrun pos after guard) (hKc _ _ _ _ hK ⟨ρ, Im, M, hw.put H.G hdst' hr⟩)
theorem loadG_mk {t : TypeId} {g : Nat} (cs : List Value) (hg : (g, cs) ∈ gtab) (r : AV) (hp : partOf S.P t (cs.map .v) 0 r) (hK : K (updO E dst r) σ)
    (hfit : (dst.all (decide <| · < S.N) && Op.low S.N (.load t (.global g))) = true := by kernel_rfl) : semD S dst (.load t (.global g)) ty K E σ := by
  refine semD_pure r hfit (fun _ e => by cases e) (fun C w ρ Im M a H hw _ => ?_) hK
  have hgk := (hw.gok H) _ hg
  obtain ⟨y, hrun, hrep⟩ := load_sound (P := S.P) (w := w) (ρ := ρ) (Im := Im) (b := g) (o := 0) (ys := cs) hp ⟨by simp, fun j c y hc hy => by
    rw [List.getElem?_map, hy] at hc; simp at hc; subst hc; exact .im _ _ (.v _)⟩ (fun y hy => by
      obtain ⟨i, hi⟩ := List.mem_iff_getElem?.1 hy; exact (hgk.2 i y hi).2) (fun i v hv => by rw [Nat.zero_add]; exact (hgk.2 i v hv).1)
  exact ⟨y, fun _ _ _ => by simp [execOp, Act.eval, Instr.loadAt, Instr.sureAddr, hrun], hrep⟩
theorem toStr_mk {s t e : TypeId} {x : Operand} (l : List Int) (hx : srcC σ (ev E x) = some (1, l.map Y)) (hns : ∀ b, ev E x ≠ .v (.string b)) (hs : S.P.underlying s = some (.slice e)) (he : S.P.underlying e = some (.int .u8)) (ht : S.P.underlying t = some .string)
    (hK : K (updO E dst (.v (.string (strOfNums l)))) σ) (hfit : (dst.all (decide <| · < S.N) && Op.low S.N (.convert s t x)) = true := by kernel_rfl) : semD S dst (.convert s t x) ty K E σ := by
  refine semD_pure _ hfit (fun _ e => by cases e) (fun C w ρ Im M a H hw rep => ⟨_, fun _ _ _ => ?_, .im _ _ (.v (.string (strOfNums l)))⟩) hK
  have hr := rep x (by simp [Op.operands])
  obtain ⟨sz, xs, ⟨rfl, rfl⟩, hsrc⟩ := src_cells hw.inv (srcC_of (K := fun sz xs => sz = 1 ∧ xs = l.map Y) hx ⟨rfl, rfl⟩) hr
  rcases hsrc with ⟨ad, cap, hy, _, hmem⟩ | ⟨b, hb, _⟩
  · rw [List.length_map] at hy
    cases ad with
    | none =>
      rcases hmem with ⟨h0, _⟩ | ⟨b, o, h0, _⟩
      · have hl : l = [] := by simpa using h0
        subst hl
        simp only [execOp, hy, Sem.run_bind, run_convert_bytes_nil w s e hs he _ _ t ht, Result.andThen_ok, Sem.run_pure]
        rfl
      · cases h0
    | some ad =>
      rcases hmem with ⟨h0, _⟩ | ⟨b, o, h0, _, hc⟩
      · have hl : l = [] := by simpa using h0
        subst hl
        have := run_convert_bytes_back w s t e ad cap [] hs he ht (fun j hj => absurd hj (by simp))
        simp only [List.length_nil] at this hy
        simp only [execOp, hy, Sem.run_bind, this, Result.andThen_ok, Sem.run_pure]
        rfl
      · cases h0
        have hc : ∀ i, i < l.length → w.cell? ⟨b, o + i, none⟩ = some (.int .u8 (l.getD i 0)) := fun i hi => by
          obtain ⟨v, hv, _, hrv⟩ := hc i (Y (l.getD i 0)) 0 (Y (l.getD i 0)) (by simp [List.getElem?_map, List.getD_eq_getElem?_getD, hi]) rfl
          have := hrv.v_inv
          subst this
          simpa using hv
        simp only [execOp, hy, Sem.run_bind, run_convert_bytes_arg w s e hs he b o l.length cap l rfl hc t ht, Result.andThen_ok, Sem.run_pure]
  · exact absurd hb (hns b)
theorem sliceArr_mk {t e : TypeId} {x : Operand} {lo hi : Option Operand} {c : AV} {j m : Nat} (l h : Nat) (hx : ev E x = .pt c j) (ht : tarr S.P t = some (m, e)) (hs : tsz S.P e = 1) (hm : j + m ≤ c.cells.length)
    (hb : bound E hi m fun h' => bound E lo 0 fun l' => l' = l ∧ h' = h ∧ l ≤ h ∧ h ≤ m) (hK : K (updO E dst (.sl 1 ((c.cells.drop (j + l)).take (h - l)))) σ)
    (hat : ∀ a ∈ c.cells, a.cells = [a] := by simp) (hfit : (dst.all (decide <| · < S.N) && Op.low S.N (.slice t x lo hi none)) = true := by kernel_rfl) : semD S dst (.slice t x lo hi none) ty K E σ := by
  refine semD_pure _ hfit (fun _ e => by cases e) (fun C w ρ Im M a H hw rep => ?_) hK
  have hr := rep x (by simp [Op.operands])
  obtain ⟨h', hb, hh⟩ := bound_sound (w := w) (ρ := ρ) (Im := Im) hb fun o ho => rep o (by subst ho; simp [Op.operands])
  obtain ⟨l', ⟨rfl, rfl, hlh, hhm⟩, hl⟩ := bound_sound (w := w) (ρ := ρ) (Im := Im) hb fun o ho => rep o (by subst ho; simp [Op.operands])
  rw [hx] at hr
  cases hr with
  | im _ _ hr =>
    generalize hax : a.eval x = ax at hr
    cases hr with
    | pt _ _ b o f hIm hc hrep =>
      have key : (Instr.sliceBounds false m m (lo.map a.eval) (hi.map a.eval) none).run S.P w = .ok (l', h', m) w := by
        unfold Instr.sliceBounds
        rcases hh with ⟨rfl, rfl⟩ | ⟨o, k, rfl, ho⟩ <;> rcases hl with ⟨rfl, rfl⟩ | ⟨o', k', rfl, ho'⟩
        · simp
        · simp [ho', run_sliceBound hlh]
        · simp [ho, run_sliceBound hhm]
        · simp [ho, ho', run_sliceBound hhm, run_sliceBound hlh]
      refine ⟨.slice (some (if m = l' then ⟨b, o + j, none⟩ else (⟨b, o + j, none⟩ : Addr).add (l' * 1))) (h' - l') (m - l'), fun _ _ _ => ?_, ?_⟩
      · have hz := run_sizeOf' (P := S.P) (t := e) (by omega) w
        rw [hs] at hz
        simp only [execOp, hax, Instr.sliceAt, Instr.sureAddr, Option.map_none, Sem.run_bind, run_underlying (tarr_of ht) w, Result.andThen_ok, key, hz, Sem.run_pure]
      · have hcl : ((c.cells.drop (j + l')).take (h' - l')).length = h' - l' := by rw [List.length_take, List.length_drop]; omega
        by_cases h0 : h' - l' = 0
        · rw [h0]; simp only [List.take_zero]; exact .im _ _ (.slnil ..)
        · have hne : ¬ m = l' := by omega
          rw [if_neg hne]
          have hadd : (⟨b, o + j, none⟩ : Addr).add (l' * 1) = ⟨b, o + j + l', none⟩ := by rw [add_none, Nat.mul_one]
          rw [hadd]
          have := IRep.sl (w := w) (Im := Im) 1 ((c.cells.drop (j + l')).take (h' - l')) b (o + j + l') (m - l') (fun i _ => f (j + l' + i)) hIm (by rw [hcl]; omega)
            (fun a ha => by rw [hat a (List.mem_of_mem_drop (List.mem_of_mem_take ha))]; rfl) (fun i q hi hq => by
              have : q = 0 := by omega
              subst this
              rw [hcl] at hi
              have := hc (j + l' + i) (by omega)
              rw [show o + j + l' + i * 1 + 0 = o + (j + l' + i) from by omega]; exact this) (fun i a q c' ha hq => by
              have hi := (List.getElem?_eq_some_iff.1 ha).1
              rw [hcl] at hi
              rw [List.getElem?_take, if_pos (by omega), List.getElem?_drop] at ha
              have h1 := hat a (List.mem_of_getElem? ha)
              rw [h1] at hq
              cases q with
              | succ q => simp at hq
              | zero => simp at hq; subst hq; exact hrep _ _ ha)
          rw [hcl] at this
          exact .im _ _ this
end
end Go.Vai
namespace Go.Vai
open Go.RowKit
section
variable {S : Sp} {dst : Option Nat} {ty : TypeId} {K : Env → Store → Prop} {E : Env} {σ : Store}
theorem toBytes_mk {s t e d : Nat} {x : Operand} (b : ByteArray) (hx : ev E x = .v (.string b)) (hs : S.P.underlying s = some .string) (ht : S.P.underlying t = some (.slice e)) (he : S.P.underlying e = some (.int .u8)) (hb : b.size ≤ 4611686018427387904)
    (hK : K (upd (killE (isId (16 * (S.b + d))) E) d (.own (16 * (S.b + d)) 1 0 b.size)) (updS (killS (isId (16 * (S.b + d))) σ) (16 * (S.b + d)) ⟨e, 1, (bI b).map Y⟩))
    (hd : (Nat.blt d S.N && Nat.blt d 100000) = true := by kernel_rfl) (hlow : Op.low S.N (.convert s t x) = true := by kernel_rfl) : semD S (some d) (.convert s t x) ty K E σ := by
  intro pos after guard C H n a w Kc Q ⟨ρ, Im, M, hw⟩ hKc
  simp only [Bool.and_eq_true] at hd
  have hd1 : d < S.N := Nat.le_of_ble_eq_true hd.1
  have hd2 : d < 100000 := Nat.le_of_ble_eq_true hd.2
  have hr := ev_rep hw.env (x := x) (by rw [hw.size, ← H.N]; exact low_of hlow (by simp [Op.operands]))
  rw [hx] at hr
  have hy := hr.v_inv
  have hrun := run_bytes_of_string (P := S.P) w s t e b hs ht he
  have hcap : b.size ≤ grownCap w b.size 0 e := grownCap_ge w _ 0 e
  have hbs : (bytesRow b (grownCap w b.size 0 e)).size = grownCap w b.size 0 e := by
    have : b.data.size = b.size := rfl
    simp only [bytesRow, Array.size_append, Array.size_map, Array.size_replicate, this]; omega
  have hcur : (bI b).map (fun n => Value.int .u8 n) = b.data.toList.map fun c => Value.int .u8 c.toNat := by simp only [bI, List.map_map]; rfl
  have hnew : (w.drew.alloc (.cells (bytesRow b (grownCap w b.size 0 e)) e ((bytesRow b (grownCap w b.size 0 e)).size, (bytesRow b (grownCap w b.size 0 e)).size + 1))).heap[w.heap.size]? = some (.cells (bytesRow b (grownCap w b.size 0 e)) e ((bytesRow b (grownCap w b.size 0 e)).size, (bytesRow b (grownCap w b.size 0 e)).size + 1)) := heap_alloc_new w.drew _
  have hk : ((⟨e, 1, (bI b).map Y⟩ : Blk).kill (isId (16 * (S.b + d)))) = ⟨e, 1, (bI b).map Y⟩ := by
    have : AV.namesL (isId (16 * (S.b + d))) ((bI b).map Y) = false := by
      generalize bI b = l
      induction l with
      | nil => rfl
      | cons x l ih => simp [AV.namesL, AV.namesB, ih]
    simp [Blk.kill, this]
  have h2 := hw.renew H.G (id := 16 * (S.b + d)) (d := d) (by rw [← H.N]; exact hd1) (k := ⟨e, 1, (bI b).map Y⟩) (g := w.heap.size) (cur := bytesRow b (grownCap w b.size 0 e)) (n := b.size) (cap := grownCap w b.size 0 e) (sz := 1)
    (w' := w.drew.alloc (.cells (bytesRow b (grownCap w b.size 0 e)) e ((bytesRow b (grownCap w b.size 0 e)).size, (bytesRow b (grownCap w b.size 0 e)).size + 1)))
    ⟨rfl, rfl, rfl, by simp, fun q hq _ => Below.heap_alloc w.drew _ q hq⟩ (.inr (Nat.le_refl _)) (fun q _ hq => Below.heap_alloc w.drew _ q hq) ⟨_, hnew, .inr rfl⟩ (fun e he => by obtain ⟨x, _, rfl⟩ := List.mem_map.1 he; rfl)
    (by simp only [List.length_map, bI_length, Nat.mul_one]; rw [hbs]; exact hcap) (fun i e' j c he' hc => ?_) hcap (grownCap_le_maxLen w _ 0 e (by simp only [maxLen]; omega)) (by rw [hbs, Nat.mul_one]) (by decide) Nat.one_ne_zero (H.free hd2 0 (by omega))
  · rw [hk] at h2
    refine wpIn_value (fun _ e => by cases e) ?_ (hKc _ _ _ _ hK ⟨_, _, _, h2⟩)
    simp only [execOp, hy, Sem.run_bind, hrun, Result.andThen_ok, Sem.run_pure]
  · rw [List.getElem?_map] at he'
    cases hn : (bI b)[i]? with
    | none => simp [hn] at he'
    | some n =>
      simp [hn] at he'; subst he'
      cases j with
      | succ j => simp at hc
      | zero =>
        simp at hc; subst hc
        refine ⟨.int .u8 n, ?_, rfl, .im _ _ (.v _)⟩
        have hi : i < (bI b).length := (List.getElem?_eq_some_iff.1 hn).1
        rw [bI_length] at hi
        have := bytesRow_at b (grownCap w b.size 0 e) i hi
        simp only [Nat.mul_one, Nat.add_zero]
        rw [this]
        simp only [bI, List.getElem?_map, Option.map_eq_some_iff] at hn
        obtain ⟨c, hc, rfl⟩ := hn
        have hc' : b.data[i]? = some c := by simpa using hc
        rw [Array.getElem?_eq_getElem hi] at hc'
        cases hc'; rfl
theorem toArr_mk {t e : TypeId} {x : Operand} {es : List AV} {m : Nat} (hx : ev E x = .sl 1 es) (ht : tarr S.P t = some (m, e)) (hm : m ≤ es.length) (h0 : es ≠ []) (hat : ∀ a ∈ es, a.cells = [a])
    (hK : K (updO E dst (.pt (.agg es) 0)) σ) (hfit : (dst.all (decide <| · < S.N) && Op.low S.N (.sliceToArrayPointer t x)) = true := by kernel_rfl) : semD S dst (.sliceToArrayPointer t x) ty K E σ := by
  refine semD_pure _ hfit (fun _ e => by cases e) (fun C w ρ Im M a H hw rep => ?_) hK
  have hr := rep x (by simp [Op.operands])
  rw [hx] at hr
  cases hr with
  | im _ _ hr =>
    generalize hax : a.eval x = ax at hr
    cases hr with
    | slnil => exact absurd rfl h0
    | sl _ _ b o cap f hIm hcap hl hc hrep =>
      refine ⟨.pointer (some ⟨b, o, none⟩), fun _ _ _ => ?_, ?_⟩
      · have : ¬ es.length < m := by omega
        simp only [execOp, hax, Instr.arrayAt, Sem.run_bind, run_underlying (tarr_of ht) w, Result.andThen_ok, this, if_false, Sem.run_pure]
      · have := IRep.pt (w := w) (Im := Im) (.agg es) 0 b o (fun i => f i 0) hIm (fun i hi => by
          have := hc i 0 hi (by omega)
          simpa using this) (fun i c hi => hrep i c 0 c hi (by rw [hat c (List.mem_of_getElem? hi)]; rfl))
        exact .im _ _ this
theorem slice3_mk {t e : TypeId} {x mx : Operand} {lo hi : Option Operand} {sz : Nat} {es : List AV} (l h : Nat) {km : IntKind} (hx : ev E x = .sl sz es) (ht : tel S.P t = some e) (hz : tsz S.P e = sz) (h0 : 0 < sz) (hm : ev E mx = .v (.int km h)) (hhi : hi ≠ none)
    (hb : bound E hi es.length fun h' => bound E lo 0 fun l' => l' = l ∧ h' = h ∧ l ≤ h ∧ h ≤ es.length) (hK : K (updO E dst (.sl sz ((es.drop l).take (h - l)))) σ)
    (hfit : (dst.all (decide <| · < S.N) && Op.low S.N (.slice t x lo hi (some mx))) = true := by kernel_rfl) : semD S dst (.slice t x lo hi (some mx)) ty K E σ := by
  refine semD_pure _ hfit (fun _ e => by cases e) (fun C w ρ Im M a H hw rep => ?_) hK
  have hr := rep x (by simp [Op.operands])
  have hmr := rep mx (by simp [Op.operands])
  rw [hm] at hmr
  have hmv := hmr.v_inv
  obtain ⟨h', hb, hh⟩ := bound_sound (w := w) (ρ := ρ) (Im := Im) hb fun o ho => rep o (by subst ho; simp [Op.operands])
  obtain ⟨l', ⟨rfl, rfl, hlh, hhm⟩, hl⟩ := bound_sound (w := w) (ρ := ρ) (Im := Im) hb fun o ho => rep o (by subst ho; simp [Op.operands])
  rw [hx] at hr
  obtain ⟨ad, n', cap, hy, hn', h1, h2, h3, _, hrep⟩ := slCut_sound (P := S.P) (e := e) (lo := l') (hi := h') (r := .sl sz ((es.drop l').take (h' - l'))) (x := .sl sz es) ⟨h0, hz, hlh, hhm, rfl⟩ hr
  simp only [lenV, Option.some.injEq] at hn'
  subst hn'
  have hmx : mx ∈ (Op.slice t x lo hi (some mx)).operands := by simp [Op.operands]
  have key : (Instr.sliceBounds true es.length cap (lo.map a.eval) (hi.map a.eval) (some (a.eval mx))).run S.P w = .ok (l', h', h') w := by
    unfold Instr.sliceBounds
    have r1 := fun c => run_sliceBound (P := S.P) (w := w) (k := km) (code := c) (show h' ≤ cap by omega)
    have r2 := fun k c => run_sliceBound (P := S.P) (w := w) (k := k) (code := c) (Nat.le_refl h')
    have r3 := fun k c => run_sliceBound (P := S.P) (w := w) (k := k) (code := c) hlh
    rw [hmv]
    rcases hh with ⟨rfl, rfl⟩ | ⟨o, k, rfl, ho⟩
    · exact absurd rfl hhi
    · rcases hl with ⟨rfl, rfl⟩ | ⟨o', k', rfl, ho'⟩
      · simp [ho, r1, r2]
      · simp [ho, ho', r1, r2, r3]
  have hsz := run_sizeOf' (P := S.P) (t := e) (by omega) w
  refine ⟨.slice (if h' = l' then ad else ad.map (·.add (l' * tsz S.P e))) (h' - l') (h' - l'), fun _ _ _ => ?_, ?_⟩
  · simp only [execOp, hy, Option.map_some, Instr.sliceAt, Instr.slice, Sem.run_bind, run_underlying (tel_of ht) w, Result.andThen_ok, key, hsz, Sem.run_pure]
  · have hL : ((es.drop l').take (h' - l')).length = h' - l' := by rw [List.length_take, List.length_drop]; omega
    by_cases e0 : h' - l' = 0
    · have : (es.drop l').take (h' - l') = [] := by rw [e0]; rfl
      rw [this, e0]; exact .im _ _ (.slnil ..)
    · rw [if_neg (by omega)]
      rw [if_neg (by omega)] at hrep
      generalize ad.map (·.add (l' * tsz S.P e)) = ad' at hrep
      generalize (es.drop l').take (h' - l') = L at *
      generalize h' - l' = q at *
      generalize cap - l' = c at *
      clear key
      cases hrep with
      | im _ _ hr =>
        cases hr with
        | slnil => simp at hL; omega
        | sl _ _ b o cap' f hIm hcap hl' hc hrep' => exact .im _ _ (.sl _ _ b o _ f hIm (Nat.le_refl _) hl' hc hrep')
theorem ptrNil_mk {t te : TypeId} {op : BinOp} {x : Operand} {t' : TypeId} (q : Bool) (hx : (ev E x = .v (.pointer none) ∧ q = true) ∨ ((∃ id sz i j, ev E x = .ptr id sz i j) ∧ q = false) ∨ ((∃ e j, ev E x = .pt e j) ∧ q = false)) (ht : S.P.underlying t = some (.pointer te))
    (r : Bool) (hop : (op = .eql ∧ r = q) ∨ (op = .neq ∧ r = !q)) (hK : K (updO E dst (.v (.bool r))) σ) (hfit : (dst.all (decide <| · < S.N) && Op.low S.N (.binOp op t x (.const (.pointer none)) t')) = true := by kernel_rfl) : semD S dst (.binOp op t x (.const (.pointer none)) t') ty K E σ := by
  refine semD_pure _ hfit (fun _ e => by cases e) (fun C w ρ Im M a H hw rep => ⟨_, fun _ _ _ => ?_, .im _ _ (.v _)⟩) hK
  have hr := rep x (by simp [Op.operands])
  have hax : ∃ ad : Option Addr, a.eval x = .pointer ad ∧ q = ad.isNone := by
    rcases hx with ⟨hx, rfl⟩ | ⟨⟨id, sz, i, j, hx⟩, rfl⟩ | ⟨⟨e, j, hx⟩, rfl⟩
    · rw [hx] at hr; exact ⟨none, hr.v_inv, rfl⟩
    · rw [hx] at hr; obtain ⟨b, hy, _⟩ := hr.ptr_inv; exact ⟨_, hy, rfl⟩
    · rw [hx] at hr; obtain ⟨b, o, hy, _⟩ := hr.pt_inv; exact ⟨_, hy, rfl⟩
  obtain ⟨ad, hax, rfl⟩ := hax
  have he : ∀ d, (Op.equalIn (d + 1) t (.pointer ad) (.pointer none)).run S.P w = .ok ad.isNone w := fun d => by cases ad <;> simp [Op.equalIn, run_underlying ht]
  have hg : ∀ w, (eqGuard op t x (.const (.pointer none)) (.pointer ad) (.pointer none)).run S.P w = .ok () w := fun w => by unfold eqGuard; cases op <;> rfl
  have hay : a.eval (.const (.pointer none)) = .pointer none := rfl
  rcases hop with ⟨rfl, rfl⟩ | ⟨rfl, rfl⟩
  · simp only [execOp, hax, hay, Sem.run_bind, hg, Result.andThen_ok, binOp, Op.equal, Op.maxDepth, he 9999, Sem.run_pure]
  · simp only [execOp, hax, hay, Sem.run_bind, hg, Result.andThen_ok, binOp, Op.equal, Op.maxDepth, he 9999, Sem.run_pure]
theorem ptrSame_mk {t te : TypeId} {op : BinOp} {x y : Operand} {t' : TypeId} {id sz i j : Nat} {inf : TypeInfo} (hx : ev E x = .ptr id sz i j) (hy : ev E y = .ptr id sz i j) (ht : S.P.underlying t = some (.pointer te)) (hi : S.P.info? te = some inf)
    (r : Bool) (hop : (op = .eql ∧ r = true) ∨ (op = .neq ∧ r = false)) (hK : K (updO E dst (.v (.bool r))) σ) (hfit : (dst.all (decide <| · < S.N) && Op.low S.N (.binOp op t x y t')) = true := by kernel_rfl) : semD S dst (.binOp op t x y t') ty K E σ := by
  refine semD_pure _ hfit (fun _ e => by cases e) (fun C w ρ Im M a H hw rep => ⟨_, fun _ _ _ => ?_, .im _ _ (.v _)⟩) hK
  have hrx := rep x (by simp [Op.operands])
  have hry := rep y (by simp [Op.operands])
  rw [hx] at hrx; rw [hy] at hry
  have hb : ∃ b, a.eval x = .pointer (some ⟨b, i * sz + j, none⟩) ∧ a.eval y = .pointer (some ⟨b, i * sz + j, none⟩) := by
    generalize a.eval x = ax at hrx
    generalize a.eval y = ay at hry
    cases hrx with
    | im _ _ h => cases h
    | ptr _ _ _ _ b hρ hz =>
      cases hry with
      | im _ _ h => cases h
      | ptr _ _ _ _ b' hρ' hz' => rw [hρ] at hρ'; cases hρ'; exact ⟨b, rfl, rfl⟩
  obtain ⟨b, hax, hay⟩ := hb
  have hg : ∀ w v, (eqGuard op t x y (.pointer v) (.pointer v)).run S.P w = .ok () w := fun w v => by unfold eqGuard; cases op <;> rfl
  rcases hop with ⟨rfl, rfl⟩ | ⟨rfl, rfl⟩
  · simp only [execOp, hax, hay, Sem.run_bind, hg, Result.andThen_ok, run_eql_ptr_same w _ ht hi, Sem.run_pure]
  · simp only [execOp, hax, hay, Sem.run_bind, hg, Result.andThen_ok, Lib.run_neq_ptr_same w _ ht hi, Sem.run_pure]
theorem rowAt_mono {P : Program} {fits : TypeId → Bool} {d : Nat} {e : TypeId} {c c' off n : Nat} (hc : c ≤ c') (h : rowAt P fits d e c off n = true) : rowAt P fits d e c' off n = true := by
  cases d with
  | zero => simp [rowAt] at h
  | succ d =>
    simp only [rowAt] at h ⊢
    by_cases h0 : P.cellsOf e = 0
    · simp [h0] at h
    · simp only [h0, if_false, Bool.or_eq_true, Bool.and_eq_true, decide_eq_true_eq] at h ⊢
      rcases h with ⟨⟨h1, h2⟩, h3⟩ | ⟨h1, h2⟩
      · exact .inl ⟨⟨h1, by omega⟩, h3⟩
      · exact .inr ⟨by omega, h2⟩
theorem liesAt_mono {P : Program} : ∀ {d : Nat} {e : TypeId} {c c' off : Nat} {u : TypeId} {n : Nat}, c ≤ c' → liesAt P d e c off u n = true → liesAt P d e c' off u n = true
  | 0, _, _, _, _, _, _, _, h => by simp [liesAt] at h
  | d + 1, e, c, c', off, u, n, hc, h => by
    simp only [liesAt, Bool.or_eq_true] at h ⊢
    rcases h with h | h
    · exact .inl (rowAt_mono hc h)
    · refine .inr ?_
      split at h
      · rename_i m u' hu; exact liesAt_mono hc h
      · cases h
theorem toUnsafe_mk {t te u : TypeId} {x : Operand} {id sz j : Nat} {k : Blk} {inf : TypeInfo} (hx : ev E x = .ptr id sz 0 j) (hk : σ id = some k) (hks : k.sz = sz) (h0 : sz ≠ 0) (hj : j < k.es.length * sz) (ht : S.P.underlying t = some (.pointer te)) (hu : S.P.underlying u = some .unsafePointer)
    (hi : S.P.info? te = some inf) (hz : inf.size ≠ 0) (hK : K (updO E dst (.ptr id sz 0 j)) σ) (hfit : (dst.all (decide <| · < S.N) && Op.low S.N (.convert t u x)) = true := by kernel_rfl) : semD S dst (.convert t u x) ty K E σ := by
  refine semD_pure _ hfit (fun _ e => by cases e) (fun C w ρ Im M a H hw rep => ?_) hK
  have hr := rep x (by simp [Op.operands])
  rw [hx] at hr
  generalize hax : a.eval x = ax at hr
  cases hr with
  | im _ _ h => cases h
  | ptr _ _ _ _ b hρ hz' =>
    obtain ⟨cur, ⟨fr, hb, _⟩, _, hs, _⟩ := hw.inv.blk id k b hk hρ (by omega)
    refine ⟨_, fun _ _ _ => ?_, .ptr id sz 0 j b hρ hz'⟩
    have hsh : w.shape? b = some (k.e, cur.size) := by simp [World.shape?, hb]
    have := Lib.run_to_unsafe (P := S.P) w ⟨b, 0 * sz + j, none⟩ ht hu hi hz hsh (by rw [hks] at hs; simp; omega)
    simp only [execOp, hax, Sem.run_bind, this, Result.andThen_ok, Sem.run_pure]
theorem ofUnsafe_mk {t te u : TypeId} {x : Operand} {id sz j : Nat} {k : Blk} {inf : TypeInfo} (hx : ev E x = .ptr id sz 0 j) (hk : σ id = some k) (hks : k.sz = sz) (h0 : sz ≠ 0) (hes : k.es ≠ []) (ht : S.P.underlying t = some .unsafePointer) (hu : S.P.underlying u = some (.pointer te))
    (hi : S.P.info? te = some inf) (hc : S.P.cellsOf k.e ≠ 0 ∧ S.P.cellsOf k.e ≤ sz) (hl : liesAt S.P S.P.depth k.e 1 j te 1 = true) (hK : K (updO E dst (.ptr id sz 0 j)) σ) (hfit : (dst.all (decide <| · < S.N) && Op.low S.N (.convert t u x)) = true := by kernel_rfl) : semD S dst (.convert t u x) ty K E σ := by
  refine semD_pure _ hfit (fun _ e => by cases e) (fun C w ρ Im M a H hw rep => ?_) hK
  have hr := rep x (by simp [Op.operands])
  rw [hx] at hr
  generalize hax : a.eval x = ax at hr
  cases hr with
  | im _ _ h => cases h
  | ptr _ _ _ _ b hρ hz' =>
    obtain ⟨cur, ⟨fr, hb, _⟩, _, hs, _⟩ := hw.inv.blk id k b hk hρ (by omega)
    refine ⟨_, fun _ _ _ => ?_, .ptr id sz 0 j b hρ hz'⟩
    have hsh : w.shape? b = some (k.e, cur.size) := by simp [World.shape?, hb]
    have hone : 1 ≤ cur.size / S.P.cellsOf k.e := by
      rw [Nat.le_div_iff_mul_le (by omega), Nat.one_mul]
      have : 1 ≤ k.es.length := List.length_pos_iff.2 hes
      have := Nat.mul_le_mul_right k.sz this
      omega
    have := Lib.run_from_unsafe (P := S.P) w (a := ⟨b, 0 * sz + j, none⟩) ht hu hi hsh (by simp only [Nat.zero_mul, Nat.zero_add]; exact liesAt_mono hone hl)
    simp only [execOp, hax, Sem.run_bind, this, Result.andThen_ok, Sem.run_pure]
end
end Go.Vai
namespace Go.Vai
open Go.RowKit
section
variable {S : Sp} {dst : Option Nat} {ty : TypeId} {K : Env → Store → Prop} {E : Env} {σ : Store}
theorem noEscape_mk {g : FuncId} {fn : Func} {x : Operand} {ats : Array TypeId} (v : AV) (hx : ev E x = v) (hfn : S.P.funcs[g]? = some fn) (hname : (fn.name == "runtime.NumGoroutine") = false) (hb : fn.body.isNone = true) (hn : Extern.findNext fn = none) (he : Extern.find fn = some Extern.AbiNoEscape.same)
    (hK : K (updO E dst v) σ) (hfit : (dst.all (decide <| · < S.N) && Op.low S.N (.call { callee := .value (.func g), args := #[x], argTypes := ats })) = true := by kernel_rfl) :
    semD S dst (.call { callee := .value (.func g), args := #[x], argTypes := ats }) ty K E σ := by
  refine semD_pure _ hfit (fun _ e => by cases e) (fun C w ρ Im M a H hw rep => ⟨a.eval x, fun _ _ _ => ?_, ?_⟩) hK
  · have : a.eval (.func g) = .func (.func g) #[] #[] := rfl
    simp [execOp, resolve, this, Deferred.ofValue, invoke, run_callFunc_extern hfn hname hb hn he, Lib.run_noEscape]
  · have := rep x (by simp [Op.operands, Call.operands])
    rw [hx] at this; exact this
theorem unsafeStr_mk {tp ti e d : Nat} {x y : Operand} {id : Nat} (s : ByteArray) (hx : ev E x = .ptr id 1 0 0) (hy : ev E y = .v (.int .i64 s.size)) (hs : σ id = some ⟨e, 1, (bI s).map Y⟩) (h0 : s.size ≠ 0) (htp : S.P.underlying tp = some (.pointer e)) (hce : S.P.cellsOf e = 1) (hpin : S.pin id = false)
    (h63 : s.size ≤ 9223372036854775807)
    (hK : K (upd (killE (isId id) E) d (.v (.string s))) (updS (killS (isId id) σ) id ⟨e, 1, []⟩)) (hd : Nat.blt d S.N = true := by kernel_rfl)
    (hlow : Op.low S.N (.call { callee := .builtin .unsafeString, args := #[x, y], argTypes := #[tp, ti] }) = true := by kernel_rfl) :
    semD S (some d) (.call { callee := .builtin .unsafeString, args := #[x, y], argTypes := #[tp, ti] }) ty K E σ := by
  intro pos after guard C H n a w Kc Q ⟨ρ, Im, M, h⟩ hKc
  have hd1 : d < S.N := Nat.le_of_ble_eq_true hd
  have rep : ∀ u ∈ (Op.call { callee := .builtin .unsafeString, args := #[x, y], argTypes := #[tp, ti] }).operands, Rep w ρ Im (ev E u) (a.eval u) := fun u hu => ev_rep h.env (by rw [h.size, ← H.N]; exact low_of hlow hu)
  have hrx := rep x (by simp [Op.operands, Call.operands])
  have hry := rep y (by simp [Op.operands, Call.operands])
  rw [hx] at hrx; rw [hy] at hry
  have hyv := hry.v_inv
  generalize hax : a.eval x = ax at hrx
  cases hrx with
  | im _ _ h => cases h
  | ptr _ _ _ _ g hρ hz =>
    obtain ⟨cur, hb, hl, hsz, hc⟩ := h.inv.blk id _ g hs hρ Nat.one_ne_zero
    have hpc : C.pin id = none := by
      cases hp : C.pin id with
      | none => rfl
      | some b => rw [H.pin id b hp] at hpin; cases hpin
    simp only [List.length_map, bI_length, Nat.mul_one] at hsz
    have hcells : ∀ j x, s.data.toList[j]? = some x → w.cell? ((⟨g, 0, none⟩ : Addr).add j) = some (.int .u8 x.toNat) := fun j x hj => by
      obtain ⟨v, hv, _, hr⟩ := hc j (Y x.toNat) 0 (Y x.toNat) (by simp [bI, hj]) rfl
      have := hr.v_inv
      subst this
      rw [add_none, cells_at hb]; simpa using hv
    obtain ⟨fr, hb0, _⟩ := hb
    have hlen : s.data.toList.length = s.size := by rw [Array.length_toList]; rfl
    have hrun := Lib.run_unsafeString_row (P := S.P) w tp ti ty e htp hce g cur.size (by simp [World.shape?, hb0]) s.data.toList (by intro e; rw [e] at hlen; simp at hlen; exact h0 hlen.symm) (by rw [hlen]; exact hsz) (by rw [hlen]; exact h63) hcells
    rw [hlen] at hrun
    have hstr : (⟨s.data.toList.toArray⟩ : ByteArray) = s := by simp
    rw [hstr] at hrun
    have hoth : ∀ k, k ≠ g → (w.freeze ⟨g, 0, none⟩ s.size).heap[k]? = w.heap[k]? := fun k hk => by
      unfold World.freeze
      split
      · rfl
      · simp only [Array.getElem?_modify]; rw [if_neg (fun e => hk e.symm)]
    have hsame : (w.freeze ⟨g, 0, none⟩ s.size).heap.size = w.heap.size := by unfold World.freeze; split <;> simp
    have hos : (w.freeze ⟨g, 0, none⟩ s.size).os = w.os ∧ (w.freeze ⟨g, 0, none⟩ s.size).tape = w.tape ∧ (w.freeze ⟨g, 0, none⟩ s.size).output = w.output := by unfold World.freeze; split <;> exact ⟨rfl, rfl, rfl⟩
    have h1 := h.kill H.G (isId id) (pin_not hpc)
    have hng : ∀ k, ((∃ i, killR (isId id) ρ i = some k) ∨ Im k ∨ M.m k ∨ C.book a k) → k ≠ g := fun k hk e => by
      subst e
      rcases hk with ⟨i, hi⟩ | hk | hk | hk
      · obtain ⟨hp, hi⟩ := killR_some hi
        have := h.inv.inj i id k hi hρ
        subst this; simp [isId] at hp
      · exact h.inv.apart id k hρ hk
      · exact (h.ms k hk).2.1 id hρ
      · exact (h.bk k hk).1 id hρ
    have h2 := (h1.core.carry H.G (w' := w.freeze ⟨g, 0, none⟩ s.size) (fun k hk => hoth k (hng k hk)) (by rw [hsame]; exact Nat.le_refl _) hos.1 hos.2.1 hos.2.2).wit
      (h.ext.trans (Y := fun k => k = g) ⟨hos.1, hos.2.1, hos.2.2, by rw [hsame]; exact Nat.le_refl _, fun k _ hk => hoth k hk⟩ fun k hk => by
        subst hk
        rcases h.rng id _ hρ with h' | h'
        · exact .inl h'.1
        · exact .inr h')
    have h3 := h2.newNil H.G (d := id) hpc (clean_kill (by simp [isId]) E σ) e 1 (dst := some d) (v := .v (.string s)) (y := .string s) (fun d' e => by cases e; rw [← H.N]; exact hd1) (.im _ _ (.v _))
    refine wpIn_value (fun _ e => by cases e) ?_ (hKc _ _ _ _ hK ⟨_, _, _, h3⟩)
    simp [execOp, resolve, invoke, builtin, hax, hyv, hrun]
theorem nilOwn_sem {op : Op} (id id' i j e sz : Nat) {k : Blk} {el : AV} (hk : σ id = some k) (hid : id' ≠ id) (he : k.es[i]? = some el) (hc : el.cells[j]? = some (.v (.slice none 0 0))) (hkz : k.sz ≠ 0) (hnk : AV.namesL (isId id') k.es = false) (hpin : S.pin id' = false)
    (h : semD S dst op ty K (killE (isId id') E) (updS (updS (killS (isId id') σ) id' ⟨e, sz, []⟩) id ⟨k.e, k.sz, k.es.set i (setC el j (.own id' sz 0 0))⟩)) : semD S dst op ty K E σ := by
  intro pos after guard C H n a w Kc Q ⟨ρ, Im, M, hw⟩ hKc
  have hpc : C.pin id' = none := by
    cases hp : C.pin id' with
    | none => rfl
    | some b => rw [H.pin id' b hp] at hpin; cases hpin
  have h1 := hw.kill H.G (isId id') (pin_not hpc)
  have h2 := h1.newNil H.G (d := id') hpc (clean_kill (by simp [isId]) E σ) e sz (dst := none) (v := .any) (y := undef) (fun d' e => by cases e) (.im _ _ (.any _))
  have hkk : k.kill (isId id') = k := by simp [Blk.kill, hnk]
  have hk3 : (updS (killS (isId id') σ) id' ⟨e, sz, []⟩) id = some k := by
    rw [updS_ne _ _ _ _ (Ne.symm hid)]
    simp only [killS]
    rw [if_neg (by simp [isId]; exact fun e => hid e.symm), hk]; simp [hkk]
  refine h pos after guard C H n a w Kc Q ⟨updR (killR (isId id') ρ) id' none, Im, M, ?_⟩ hKc
  have hown : ∀ v : World, Rep v (updR (killR (isId id') ρ) id' none) Im (.own id' sz 0 0) (.slice none 0 0) := fun v => .ownNil _ _ (by simp)
  have h2' : Wit C (killE (isId id') E) (updS (killS (isId id') σ) id' ⟨e, sz, []⟩) a w (updR (killR (isId id') ρ) id' none) Im M := h2
  have hels : ∀ v ∈ (k.es.set i (setC el j (.own id' sz 0 0))), ∃ v0 ∈ k.es, v.cells.length = v0.cells.length := fun v hv => by
    rcases List.mem_or_eq_of_mem_set hv with hv | rfl
    · exact ⟨v, hv, rfl⟩
    · refine ⟨el, List.mem_of_getElem? he, ?_⟩
      have hj := (List.getElem?_eq_some_iff.1 hc).1
      rw [setC_cells (by simp; omega)]; simp; omega
  have hcell : ∀ (i' : Nat) (e' : AV) (j' : Nat) (c : AV), (k.es.set i (setC el j (.own id' sz 0 0)))[i']? = some e' → e'.cells[j']? = some c → (∃ e0, k.es[i']? = some e0 ∧ e0.cells[j']? = some c) ∨ (c = .own id' sz 0 0 ∧ i' = i ∧ j' = j) := fun i' e' j' c he' hc' => by
    rw [List.getElem?_set] at he'
    split at he'
    · rename_i hii
      subst hii
      split at he'
      · cases he'
        have hj := (List.getElem?_eq_some_iff.1 hc).1
        rw [setC_cells (by simp; omega)] at hc'
        simp only [AV.cells_own, List.length_singleton] at hc'
        rcases Nat.lt_trichotomy j' j with hlt | rfl | hgt
        · rw [List.append_assoc, List.getElem?_append_left (by simp; omega), List.getElem?_take, if_pos hlt] at hc'
          exact .inl ⟨el, he, hc'⟩
        · rw [List.append_assoc, List.getElem?_append_right (by simp; omega)] at hc'
          have : j' - (el.cells.take j').length = 0 := by simp; omega
          rw [this] at hc'; simp at hc'; exact .inr ⟨hc'.symm, rfl, rfl⟩
        · rw [List.getElem?_append_right (by simp; omega), List.getElem?_drop] at hc'
          have : j + 1 + (j' - (el.cells.take j ++ [AV.own id' sz 0 0]).length) = j' := by simp; omega
          rw [this] at hc'
          exact .inl ⟨el, he, hc'⟩
      · cases he'
    · exact .inl ⟨e', he', hc'⟩
  refine h2'.step H.G (Ext.refl _ _) ?_ h2'.env rfl rfl rfl (fun _ _ hb => .inl hb) (fun _ hb => .inl hb) h2'.pin (fun _ h => h)
  have hi := h2'.inv
  refine ⟨fun q k2 hk2 hr => ?_, fun q k2 b hk2 hr hz => ?_, fun q k2 b hk2 hr hz => ?_, hi.inj, fun q b hr hs' => ?_, hi.apart, hi.low⟩
  · by_cases e : q = id
    · subst e
      have h0 := hi.nil q k hk3 hr
      rw [h0] at he; simp at he
    · rw [updS_ne _ _ _ _ e] at hk2; exact hi.nil q k2 hk2 hr
  · by_cases e : q = id
    · subst e; simp at hk2; subst hk2; exact absurd hz hkz
    · rw [updS_ne _ _ _ _ e] at hk2; exact hi.map q k2 b hk2 hr hz
  · by_cases e : q = id
    · subst e; simp at hk2; subst hk2
      obtain ⟨cur, hb, hl, hs, hcc⟩ := hi.blk q k b hk3 hr hkz
      refine ⟨cur, hb, fun v hv => ?_, by simpa using hs, fun i' e' j' c he' hc' => ?_⟩
      · obtain ⟨v0, h0, h1⟩ := hels v hv
        rw [h1]; exact hl v0 h0
      · rcases hcell i' e' j' c he' hc' with ⟨e0, h0, h1⟩ | ⟨rfl, rfl, rfl⟩
        · exact hcc i' e0 j' c h0 h1
        · obtain ⟨x, hx, h1, hr'⟩ := hcc i' el j' _ he hc
          have := hr'.v_inv
          subst this
          exact ⟨_, hx, h1, hown w⟩
    · rw [updS_ne _ _ _ _ e] at hk2; exact hi.blk q k2 b hk2 hr hz
  · by_cases e : q = id
    · subst e; simp at hs'
    · rw [updS_ne _ _ _ _ e] at hs'; exact hi.live q b hr hs'
end
end Go.Vai
namespace Go.Vai
open Go.RowKit
def spM (P : Program) (f : FuncId) (N : Nat) (pins bad : List Nat) : Sp := { P, N, b := 131072 * (f + 1), pin := inI pins, yl := 0, Y := fun _ _ _ => False, bad := inI bad, old := fun i => Nat.blt (i / 16) (131072 * (f + 1)) || Nat.ble (131072 * (f + 1) + 100000) (i / 16) }
instance (P : Program) (f N : Nat) (pins bad : List Nat) : Plain (spM P f N pins bad) := ⟨fun _ _ _ _ _ hk => (show False from hk).elim⟩
section
variable (P : Program) (f N : Nat) (pins bad : List Nat)
@[go_sem] theorem spM_P : (spM P f N pins bad).P = P := rfl
@[go_sem] theorem spM_b : (spM P f N pins bad).b = 131072 * (f + 1) := rfl
@[go_sem] theorem spM_bad (id : Nat) : (spM P f N pins bad).bad id = bad.contains id := rfl
@[go_sem] theorem spM_N : (spM P f N pins bad).N = N := rfl
@[go_sem] theorem spM_pin (id : Nat) : (spM P f N pins bad).pin id = inI pins id := rfl
end
theorem lok_ofB (bad : List Nat) {P : Program} {f : FuncId} {fn : Func} {c : Code} {args : List AV} {l l' : List (Nat × Blk)} {r : AV} (pins : List Nat) (hf : P.funcs[f]? = some fn) (hb : fn.body = some c) (hok : fnB P fn bad c = true) (hmo : P.follows .mixedOrders = true)
    (hlen : args.length ≤ fn.ntmps) (hids : l.map (·.1) = l'.map (·.1)) (hpins : (pins.all fun i => (l.map (·.1)).contains i && (Nat.blt (i / 16) (131072 * (f + 1)) || Nat.ble (131072 * (f + 1) + 100000) (i / 16))) = true)
    (hold : (l.all fun p => Nat.blt (p.1 / 16) (131072 * (f + 1)) || Nat.ble (131072 * (f + 1) + 100000) (p.1 / 16)) = true)
    (h : awpC (spM P f fn.ntmps pins bad) c (retL (spM P f fn.ntmps pins bad) fn l' r) (initE args) (stO l)) : LOK P f (inI pins) args (stO l) r (stO l') := by
  simp only [fnB, Bool.and_eq_true, Bool.not_eq_true'] at hok
  obtain ⟨⟨⟨h1, h2⟩, h3⟩, h4⟩ := hok
  have h4 := Nat.le_of_ble_eq_true h4
  have h1 := codeOK_of c h1
  refine ⟨enters hf hb h3, fun w Im ρ vs hinv hgk hargs => ?_⟩
  let C : Fx := { w0 := w, X0 := fun b => ∃ id, ρ id = some b, Im0 := Im, G := fun _ _ _ => True, N := fn.ntmps, rd := none, pin := fun id => if inI pins id then some (ρ id) else none, J0 := Im, R0 := fun id b => ρ id = some b }
  simp only [List.all_eq_true, Bool.and_eq_true, Bool.or_eq_true] at hpins
  have hin : ∀ id, inI pins id = true → id ∈ pins := fun id hid => List.contains_iff_mem.1 hid
  have H : Holds (spM P f fn.ntmps pins bad) C := by
    refine ⟨rfl, gstable_true, fun _ _ _ hY => hY.elim, hmo, fun id b hp => ?_, fun id hp => ?_, h4, fun _ => rfl, fun id b _ hb => ?_, hgk, fun b hb => ⟨fun ⟨id, hid⟩ => hinv.apart id b hid (hgk.im hb), hinv.low b (hgk.im hb)⟩⟩
    · simp only [C] at hp
      cases hn : inI pins id with
      | true => exact hn
      | false => simp [hn] at hp
    · rcases (hpins id (hin id hp)).2 with h' | h'
      · exact .inl (Nat.le_of_ble_eq_true h')
      · exact .inr (Nat.le_of_ble_eq_true h')
    · cases hs : stO l id with
      | none => exact absurd hs (hinv.live id b hb)
      | some k => exact List.all_eq_true.1 hold _ (stO_mem hs)
  have hawp := awpC_of (S := spM P f fn.ntmps pins bad) (fun _ _ _ _ _ hk => (show False from hk).elim) c (Q' := retG P fn fun vs _ σ => lretK (inI (l'.map (·.1))) l' r σ vs) (fun e E σ hk => by
    cases e <;> first | exact hk.elim | exact rvC_of _ _ hk) h
  refine body_sound (E0 := initE args) (S := spM P f fn.ntmps pins bad) (C := C) (ρ0 := ρ) (Im0 := Im) (M0 := ⟨fun _ => False, fun _ => False⟩) H rfl hf hb rfl h1 h2 ?_ hawp fun E σ tm w' ρ' I M us ys hk hrest hr => ?_
  · refine ⟨hinv, env_init hargs, ?_, Ext.refl _ _, fun i b hi => .inl ⟨⟨i, hi⟩, hi⟩, fun b hb => .inl hb, fun p => ?_, trivial, fun b hb => hb.elim, fun b hb => hb.elim, fun l r hr => (by cases hr), .nil, fun d hd => (by cases hd), fun b hb => ?_, fun id ob hp => ?_, fun b hb => hb⟩
    · simp only [Array.size_append, List.size_toArray, Array.size_replicate]
      have := hargs.1
      show vs.length + (fn.ntmps - vs.length) = fn.ntmps
      omega
    · show AV.namesB p (initE args fn.ntmps) = false
      rw [initE_out args _ hlen]; rfl
    · rcases hb with ⟨r, hr⟩ | hd
      · cases hr
      · cases hd
    · simp only [C] at hp
      split at hp
      · cases hp; rfl
      · cases hp
  · obtain ⟨ρ2, Im2, i2, a1, a2, a3, a4, a5⟩ := lret_sound (ρ0 := ρ) hrest hinv.low (fun id b h => h) (fun id b hb => ⟨by
      rw [← hids]
      have := hinv.live id b hb
      cases hs : stO l id with
      | none => exact absurd hs this
      | some k => exact List.mem_map.2 ⟨_, stO_mem hs, rfl⟩, hinv.lt hb, hinv.apart id b hb⟩) hr hk
    refine ⟨_, ρ2, Im2, rfl, hrest.ext, i2, fun b hb => ?_, a2, a3, fun id hid => ?_, a5⟩
    · exact a1 b (hrest.j0 b hb)
    · rw [a4 id (by
        have := (hpins id (hin id hid)).1
        rw [hids] at this; exact this)]
      exact hrest.pin id (ρ id) (by simp [C, hid])
theorem region_W {S : Sp} {id : Nat} {ops : Array Oper} {Q : Exit → Env → Store → Prop} {E : Env} {σ : Store}
    (h : ∀ (C : Fx) (H : Holds S C) (n : Nat) (R : Exit → Act → World → Prop), (∀ e E σ a w, Q e E σ → St C E σ a w → R e a w) → ∀ a w, St C E σ a w →
      ∃ V : (Nat → Bool) → Act → World → Prop, V (fun _ => false) a w ∧ (∀ D a w, (∀ i, i < ops.size → D i = true) → V D a w → R .normal a w) ∧
        ∀ i o, ops[i]? = some o → ∀ D, D i = false → (∀ e ∈ o.after.toList, Region.binds .any e = true → D e.on = true) → ∀ a w, V D a w → ∀ Kc : Act → World → Prop, (∀ a' w', V (insJ D i) a' w' → Kc a' w') → wpTurn n S.P C.rdl ops o Kc R a w)
    (hedge : edgesQ 0 ops.toList = true := by kernel_rfl) : semC S (.region id ops true) Q E σ := by
  intro C H n R hR a w hs
  have hlist : ∀ (i : Nat) (o : Oper), ops[i]? = some o → ops.toList[i]? = some o := fun i o ho => by rw [Array.getElem?_toList]; exact ho
  obtain ⟨V, h0, hend, hsteps⟩ := h C H n R hR a _ (hs.drew H.G (w.drawn + 1))
  refine wpIn_region_any H.mo ?_
  have key : ∀ (fuel : Nat) (listed : Array Bool) (a : Act) (w : World), listed.size = ops.size → (rem ops listed).length ≤ fuel →
      V (fun i => listed.getD i false) a w → wpAnyIn (FW C.rdl) n S.P .any ops R fuel listed a w := by
    intro fuel
    have full : ∀ (listed : Array Bool), listed.size = ops.size → rem ops listed = [] → ∀ i, i < ops.size → listed.getD i false = true := fun listed hsz hr i hi => by
      cases hl : listed.getD i false with
      | true => rfl
      | false =>
        have : i ∈ rem ops listed := mem_rem.2 ⟨hi, by
          simp only [Array.getD_eq_getD_getElem?] at hl ⊢
          rw [Array.getElem?_eq_getElem (by omega)] at hl ⊢; exact hl⟩
        rw [hr] at this; simp at this
    induction fuel with
    | zero =>
      intro listed a w hsz hle hv
      have h0 : rem ops listed = [] := List.eq_nil_of_length_eq_zero (by omega)
      refine ⟨?_, hend _ _ _ (full listed hsz h0) hv⟩
      cases hr : Region.ready .any ops listed with
      | nil => rfl
      | cons i l =>
        have hi : i ∈ Region.ready .any ops listed := by rw [hr]; simp
        obtain ⟨h1, o, ho, _⟩ := mem_ready.1 hi
        have : i ∈ rem ops listed := mem_rem.2 ⟨(Array.getElem?_eq_some_iff.1 ho).1, h1⟩
        rw [h0] at this; simp at this
    | succ fuel ih =>
      intro listed a w hsz hle hv
      have getD_same : ∀ i, i < ops.size → listed.getD i true = listed.getD i false := fun i hi => by
        simp only [Array.getD_eq_getD_getElem?]; rw [Array.getElem?_eq_getElem (by omega)]; rfl
      refine ⟨fun hr0 => ?_, fun i hi => ?_⟩
      · have hr : rem ops listed = [] := by
          cases hr : rem ops listed with
          | nil => rfl
          | cons i l =>
            exfalso
            have hm : i ∈ rem ops listed := by rw [hr]; simp
            obtain ⟨hlt, hun⟩ := mem_rem.1 hm
            have : i ∈ Region.ready .any ops listed := mem_ready.2 ⟨hun, _, Array.getElem?_eq_getElem hlt, fun e he hb => by
              have hei := edgesQ_at hedge (hlist i _ (Array.getElem?_eq_getElem hlt)) e he hb
              cases hl : listed.getD e.on false with
              | true => rfl
              | false =>
                have hme : e.on ∈ rem ops listed := mem_rem.2 ⟨by omega, by rw [getD_same _ (by omega)]; exact hl⟩
                have hsort := rem_sorted (ops := ops) listed
                rw [hr] at hme hsort
                rcases List.mem_cons.1 hme with h | h
                · omega
                · have := (List.pairwise_cons.1 hsort).1 _ h; omega⟩
            rw [hr0] at this; simp at this
        exact hend _ _ _ (full listed hsz hr) hv
      · obtain ⟨hun, o, ho, hedges⟩ := mem_ready.1 hi
        have hlt : i < ops.size := (Array.getElem?_eq_some_iff.1 ho).1
        have hm : i ∈ rem ops listed := mem_rem.2 ⟨hlt, hun⟩
        obtain ⟨pre, post, hsplit⟩ := List.append_of_mem hm
        have hset := rem_set hsz hsplit
        have hD : (fun k => (listed.setIfInBounds i true).getD k false) = insJ (fun k => listed.getD k false) i := by
          funext k
          simp only [insJ, Array.getD_eq_getD_getElem?]
          by_cases hk : k = i
          · subst hk; simp [hsz, hlt]
          · rw [Array.getElem?_setIfInBounds_ne (Ne.symm hk)]; simp [hk]
        have hstep := hsteps i o ho (fun k => listed.getD k false) (by rw [← getD_same i hlt]; exact hun) (fun e he hb => hedges e (Array.mem_toList_iff.1 he) hb) a w hv
        have next : ∀ a' w', V (insJ (fun k => listed.getD k false) i) a' w' → wpAnyIn (FW C.rdl) n S.P .any ops R fuel (listed.setIfInBounds i true) a' w' := fun a' w' h1 => by
          refine ih (listed.setIfInBounds i true) a' w' (by simpa using hsz) ?_ (by rw [hD]; exact h1)
          rw [hset]; rw [hsplit] at hle; simp at hle ⊢; omega
        exact wpTurn_in ho (hstep _ next)
  exact key ops.size _ a _ (by simp) (by unfold rem; exact Nat.le_trans (List.length_filter_le _ _) (by simp)) (by
    have : (fun i => (Array.replicate ops.size false).getD i false) = fun _ => false := by
      funext i; simp only [Array.getD_eq_getD_getElem?, Array.getElem?_replicate]; split <;> rfl
    rw [this]; exact h0)
theorem turn_value {S : Sp} {C : Fx} {n : Nat} {ops : Array Oper} {o : Oper} {y : Value} {a : Act} {w w' : World} {Kc : Act → World → Prop} {R : Exit → Act → World → Prop} (hg : o.guard = none) (hdf : ∀ c, o.op ≠ .defer c)
    (hrun : (execOp a.eval o).run S.P w = .ok (.value y) w') (hK : Kc (a.put o.dst y) w') : wpTurn n S.P C.rdl ops o Kc R a w := by
  unfold wpTurn
  rw [if_pos (by simp [Region.wanted, hg])]
  exact wpIn_value hdf hrun hK
theorem Wit.forgetE {C : Fx} {E : Env} {σ : Store} {a : Act} {w : World} {ρ : Nat → Option Nat} {Im : Nat → Prop} {M : Str} (h : Wit C E σ a w ρ Im M) {d : Nat} (hd : d < C.N) : Wit C (upd E d .any) σ a w ρ Im M :=
  { h with
    env := fun t y hy => by
      simp only [upd]; split
      · exact .im _ _ (.any _)
      · exact h.env t y hy
    gh := fun p => by simp only [upd]; rw [if_neg (by omega)]; exact h.gh p
    g := by simp only [upd]; rw [if_neg (by omega)]; exact h.g }
theorem copy8_mk {S : Sp} {id t e t' ty1 ty2 ty3 : Nat} {p1 p2 p3 : String} {x d1 d2 d3 bid : Nat} {a1 a2 a3 : Array Edge} {Q : Exit → Env → Store → Prop} {E : Env} {σ : Store} {te : TypeId} {cs : List AV} (ht : tarr S.P t = some (8, e)) (hs1 : tsz S.P e = 1) (htl : tel S.P t' = some e)
    (hx : E x = .ptr bid 8 0 0) (hk : σ bid = some ⟨te, 8, [.agg cs]⟩) (hcl : cs.length = 8) (hat : ∀ c ∈ cs, c.cells = [c]) (hne : d1 ≠ x ∧ d2 ≠ x ∧ d1 ≠ d2 ∧ d3 ≠ x ∧ d3 ≠ d1 ∧ d3 ≠ d2) (hlt : x < S.N ∧ d1 < S.N ∧ d2 < S.N ∧ d3 < S.N)
    (hdep : ((a3.toList.any fun e => Region.binds .any e && e.on == 0) && (a3.toList.any fun e => Region.binds .any e && e.on == 1)) = true)
    (cs' : List AV) (hcs : cs.take 1 ++ cs.take 7 = cs') (hQ : Q .normal (upd (upd (upd E d1 .any) d2 .any) d3 .any) (updS σ bid ⟨te, 8, [.agg cs']⟩))
    (hedge : edgesQ 0 [⟨some d1, .slice t (.tmp x) (some (.const (.int .i64 1))) none none, ty1, p1, a1, none⟩, ⟨some d2, .slice t (.tmp x) none (some (.const (.int .i64 7))) none, ty2, p2, a2, none⟩, ⟨some d3, .call { callee := .builtin .copy, args := #[.tmp d1, .tmp d2], argTypes := #[t', t'] }, ty3, p3, a3, none⟩] = true := by kernel_rfl) :
    semC S (.region id #[⟨some d1, .slice t (.tmp x) (some (.const (.int .i64 1))) none none, ty1, p1, a1, none⟩, ⟨some d2, .slice t (.tmp x) none (some (.const (.int .i64 7))) none, ty2, p2, a2, none⟩, ⟨some d3, .call { callee := .builtin .copy, args := #[.tmp d1, .tmp d2], argTypes := #[t', t'] }, ty3, p3, a3, none⟩] true) Q E σ := by
  subst hcs
  refine region_W (fun C H n R hR a0 w0 hs => ?_) hedge
  obtain ⟨ρ, Im, M, hw⟩ := hs
  have hsz : a0.tmps.size = C.N := hw.size
  have hN := H.N
  have hb : ∃ b, a0.eval (.tmp x) = .pointer (some ⟨b, 0, none⟩) ∧ ρ bid = some b := by
    have hlx : x < a0.tmps.size := by omega
    have hr := hw.env x a0.tmps[x] (Array.getElem?_eq_getElem hlx)
    rw [hx] at hr
    have he : a0.eval (.tmp x) = a0.tmps[x] := by simp [Act.eval, hlx]
    rw [he]
    generalize a0.tmps[x] = y at hr
    cases hr with
    | im _ _ h => cases h
    | ptr _ _ _ _ b hρ hz => exact ⟨b, by simp, hρ⟩
  obtain ⟨b, hxe, hρ⟩ := hb
  have hxt : a0.tmps[x]? = some (.pointer (some ⟨b, 0, none⟩)) := by
    have hlx : x < a0.tmps.size := by omega
    have he : a0.eval (.tmp x) = a0.tmps[x] := by simp [Act.eval, hlx]
    rw [Array.getElem?_eq_getElem hlx, ← he, hxe]
  refine ⟨fun D a w => a.tmps.size = C.N ∧ a.tmps[x]? = some (.pointer (some ⟨b, 0, none⟩)) ∧ (D 0 = true → a.tmps[d1]? = some (.slice (some ⟨b, 1, none⟩) 7 7)) ∧ (D 1 = true → a.tmps[d2]? = some (.slice (some ⟨b, 0, none⟩) 7 8)) ∧
    Wit C (upd (upd (upd E d1 .any) d2 .any) d3 .any) (if D 2 = true then updS σ bid ⟨te, 8, [.agg (cs.take 1 ++ cs.take 7)]⟩ else σ) a w ρ Im M, ⟨hsz, hxt, fun h => (by cases h), fun h => (by cases h), ?_⟩, fun D a w hD hv => ?_, fun i o ho D hDi hdeps a w ⟨h1, h2, h3, h4, h5⟩ Kc hKc => ?_⟩
  · simp only [Bool.false_eq_true, if_false]
    exact ((hw.forgetE (by omega)).forgetE (by omega)).forgetE (by omega)
  · have h5 := hv.2.2.2.2
    rw [if_pos (hD 2 (by show 2 < 3; omega))] at h5
    exact hR _ _ _ _ _ hQ ⟨ρ, Im, M, h5⟩
  · have same : ∀ d, d = d1 ∨ d = d2 ∨ d = d3 → (upd (upd (upd E d1 .any) d2 .any) d3 .any) d = .any := fun d hd => by
      simp only [upd]; rcases hd with rfl | rfl | rfl <;> (repeat' split) <;> simp_all
    have hput : ∀ {d : Nat} {y v : Value} {t : Nat}, t ≠ d → a.tmps[t]? = some v → (a.put (some d) y).tmps[t]? = some v := fun {d y v t} hne hv => by
      simp only [Act.put]; rw [Array.getElem?_setIfInBounds_ne (Ne.symm hne)]; exact hv
    have hput' : ∀ {d : Nat} {y : Value}, d < S.N → (a.put (some d) y).tmps[d]? = some y := fun {d y} hd => by
      simp only [Act.put]; rw [Array.getElem?_setIfInBounds_self_of_lt (by omega)]
    have hax : a.eval (.tmp x) = .pointer (some ⟨b, 0, none⟩) := by simp [Act.eval, h2]
    have hz := run_sizeOf' (P := S.P) (t := e) (by omega) w
    rw [hs1] at hz
    match i, ho with
    | 0, ho =>
      cases ho
      have hrun : (execOp a.eval ⟨some d1, .slice t (.tmp x) (some (.const (.int .i64 1))) none none, ty1, p1, a1, none⟩).run S.P w = .ok (.value (.slice (some ⟨b, 1, none⟩) 7 7)) w := by
        have key : (Instr.sliceBounds false 8 8 (some (.int .i64 1)) none none).run S.P w = .ok (1, 8, 8) w := by
          unfold Instr.sliceBounds
          have := fun c => run_sliceBound (P := S.P) (w := w) (k := .i64) (code := c) (show 1 ≤ 8 by omega)
          simp at this
          simp [this]
        have hc : a.eval (.const (.int .i64 1)) = .int .i64 1 := rfl
        simp only [execOp, hax, Option.map_some, Option.map_none, hc, Instr.sliceAt, Instr.sureAddr, Sem.run_bind, run_underlying (tarr_of ht) w, Result.andThen_ok, key, hz, Sem.run_pure]
        rfl
      refine turn_value rfl (fun _ e => by cases e) hrun (hKc _ _ ⟨by rw [put_size]; exact h1, hput (Ne.symm hne.1) h2, fun _ => hput' hlt.2.1, fun h => hput (Ne.symm hne.2.2.1) (h4 (by simpa [insJ] using h)), ?_⟩)
      have h6 := h5.put H.G (dst := some d1) (v := .any) (y := .slice (some ⟨b, 1, none⟩) 7 7) (fun d e => by cases e; omega) (.im _ _ (.any _))
      have e1 : updO (upd (upd (upd E d1 .any) d2 .any) d3 .any) (some d1) .any = upd (upd (upd E d1 .any) d2 .any) d3 .any := upd_self _ _ _ (same d1 (.inl rfl))
      rw [e1] at h6
      simpa [insJ] using h6
    | 1, ho =>
      cases ho
      have hrun : (execOp a.eval ⟨some d2, .slice t (.tmp x) none (some (.const (.int .i64 7))) none, ty2, p2, a2, none⟩).run S.P w = .ok (.value (.slice (some ⟨b, 0, none⟩) 7 8)) w := by
        have key : (Instr.sliceBounds false 8 8 none (some (.int .i64 7)) none).run S.P w = .ok (0, 7, 8) w := by
          unfold Instr.sliceBounds
          have := fun c => run_sliceBound (P := S.P) (w := w) (k := .i64) (code := c) (show 7 ≤ 8 by omega)
          simp at this
          simp [this]
        have hc : a.eval (.const (.int .i64 7)) = .int .i64 7 := rfl
        simp only [execOp, hax, Option.map_some, Option.map_none, hc, Instr.sliceAt, Instr.sureAddr, Sem.run_bind, run_underlying (tarr_of ht) w, Result.andThen_ok, key, hz, Sem.run_pure]
        rfl
      refine turn_value rfl (fun _ e => by cases e) hrun (hKc _ _ ⟨by rw [put_size]; exact h1, hput (Ne.symm hne.2.1) h2, fun h => hput hne.2.2.1 (h3 (by simpa [insJ] using h)), fun _ => hput' hlt.2.2.1, ?_⟩)
      have h6 := h5.put H.G (dst := some d2) (v := .any) (y := .slice (some ⟨b, 0, none⟩) 7 8) (fun d e => by cases e; omega) (.im _ _ (.any _))
      have e1 : updO (upd (upd (upd E d1 .any) d2 .any) d3 .any) (some d2) .any = upd (upd (upd E d1 .any) d2 .any) d3 .any := upd_self _ _ _ (same d2 (.inr (.inl rfl)))
      rw [e1] at h6
      simpa [insJ] using h6
    | 2, ho =>
      cases ho
      simp only [Bool.and_eq_true, List.any_eq_true, beq_iff_eq] at hdep
      obtain ⟨⟨g1, m1, b1, on1⟩, ⟨g2, m2, b2, on2⟩⟩ := hdep
      have hd0 := h3 (by have := hdeps g1 m1 b1; rwa [on1] at this)
      have hd1 := h4 (by have := hdeps g2 m2 b2; rwa [on2] at this)
      rw [if_neg (by simp [hDi])] at h5
      obtain ⟨cur, hbb, hl, hsz', hcc⟩ := h5.inv.blk bid _ b hk hρ (by simp)
      simp only [List.length_singleton, Nat.one_mul] at hsz'
      have hvals : ∀ j, j < 8 → ∃ v, cur[j]? = some v ∧ v.oneCell' = true := fun j hj => by
        obtain ⟨v, hv, h1', _⟩ := hcc 0 (.agg cs) j cs[j] rfl (by simp)
        exact ⟨v, by simpa using hv, h1'⟩
      have hlen7 : (cur.toList.take 7).length = 7 := by simp; omega
      have hget : ∀ j v, (cur.toList.take 7)[j]? = some v → j < 7 ∧ cur[j]? = some v := fun j v hv => by
        rw [List.getElem?_take] at hv
        split at hv
        · exact ⟨by assumption, by simpa using hv⟩
        · cases hv
      have hone : ∀ v ∈ cur.toList.take 7, v.oneCell' = true := fun v hv => by
        obtain ⟨j, hj⟩ := List.mem_iff_getElem?.1 hv
        obtain ⟨hj7, hj⟩ := hget j v hj
        obtain ⟨v', hv', h1'⟩ := hvals j (by omega)
        rw [hj] at hv'; cases hv'; exact h1'
      obtain ⟨fr, hb0, hfr⟩ := hbb
      have hinfo : (S.P.info? e).map (·.size) = some 1 := by
        obtain ⟨inf, hi, hs, _⟩ := info_of (P := S.P) (t := e) (by omega)
        rw [hi]; simp [hs, hs1]
      have hrun1 := run_copy_cells (P := S.P) w t' t' ty3 e b 1 7 7 ⟨b, 0, none⟩ 7 8 (cur.toList.take 7) (tel_of htl) hinfo (by rw [hlen7]; rfl) (fun j v hv => by rw [add_none, cells_at ⟨fr, hb0, hfr⟩]; simpa using (hget j v hv).2)
        (fun j hj => by rw [hlen7] at hj; rw [cells_at ⟨fr, hb0, hfr⟩]; obtain ⟨v, hv, _⟩ := hvals (1 + j) (by omega); simp [hv]) (fun j hj => by rw [hlen7] at hj; exact mk_free hb0 hfr (by omega)) hone
      have hst1 := storeCells_mk S.P b 1 te (cur.toList.take 7) 0 cur w ⟨fr, hb0, hfr⟩ (by rw [hlen7]; omega) hone
      have hst2 := run_storeCells_cells (P := S.P) b 1 (cur.toList.take 7) 0 w (fun j hj => by rw [hlen7] at hj; rw [cells_at ⟨fr, hb0, hfr⟩]; obtain ⟨v, hv, _⟩ := hvals (1 + 0 + j) (by omega); simp [hv]) (fun j hj => by rw [hlen7] at hj; exact mk_free hb0 hfr (by omega)) hone
      rw [hst1] at hst2
      have heq : w.setCells b 1 (cur.toList.take 7) = w.setRow b (cur.toList.take 1 ++ cur.toList.take 7 ++ cur.toList.drop 8).toArray := by
        simp only [Nat.add_zero, hlen7] at hst2
        injection hst2 with _ h; exact h.symm
      rw [heq] at hrun1
      have ha1 : a.eval (.tmp d1) = .slice (some ⟨b, 1, none⟩) 7 7 := by simp [Act.eval, hd0]
      have ha2 : a.eval (.tmp d2) = .slice (some ⟨b, 0, none⟩) 7 8 := by simp [Act.eval, hd1]
      have hrun : (execOp a.eval ⟨some d3, .call { callee := .builtin .copy, args := #[.tmp d1, .tmp d2], argTypes := #[t', t'] }, ty3, p3, a3, none⟩).run S.P w = .ok (.value (goInt (cur.toList.take 7).length)) (w.setRow b (cur.toList.take 1 ++ cur.toList.take 7 ++ cur.toList.drop 8).toArray) := by
        simp [execOp, resolve, invoke, builtin, ha1, ha2, hrun1]
      have h7 := h5.turn H.G (k' := ⟨te, 8, [.agg (cs.take 1 ++ cs.take 7)]⟩) (cur' := (cur.toList.take 1 ++ cur.toList.take 7 ++ cur.toList.drop 8).toArray) hk hρ ⟨fr, hb0, hfr⟩ (by simp; omega) rfl (fun e he => by simp at he; subst he; simp; omega) (by simp; omega) (fun i e' j c he hc => by
        cases i with
        | succ i => simp at he
        | zero =>
          simp at he; subst he
          simp only [AV.cells_agg] at hc
          have hj : j < 8 := by have := (List.getElem?_eq_some_iff.1 hc).1; simp at this; omega
          have hsrc : ∃ q, q < 8 ∧ cs[q]? = some c ∧ (cur.toList.take 1 ++ cur.toList.take 7 ++ cur.toList.drop 8)[j]? = cur.toList[q]? := by
            by_cases hj0 : j = 0
            · subst hj0
              refine ⟨0, by omega, ?_, ?_⟩
              · rw [List.getElem?_append_left (by simp; omega), List.getElem?_take] at hc; simpa using hc
              · rw [List.append_assoc, List.getElem?_append_left (by simp; omega), List.getElem?_take]; simp
            · refine ⟨j - 1, by omega, ?_, ?_⟩
              · rw [List.getElem?_append_right (by simp; omega)] at hc
                have : j - (cs.take 1).length = j - 1 := by simp; omega
                rw [this, List.getElem?_take, if_pos (by omega)] at hc; exact hc
              · rw [List.getElem?_append_left (by simp; omega), List.getElem?_append_right (by simp; omega)]
                have : j - (cur.toList.take 1).length = j - 1 := by simp; omega
                rw [this, List.getElem?_take, if_pos (by omega)]
          obtain ⟨q, hq, hcq, hjq⟩ := hsrc
          obtain ⟨v, hv, h1', hr⟩ := hcc 0 (.agg cs) q c rfl hcq
          refine ⟨v, ?_, h1', hr⟩
          simp only [Nat.zero_mul, Nat.zero_add, List.getElem?_toArray]
          rw [hjq]; simpa using hv) (by simp)
      refine turn_value rfl (fun _ e => by cases e) hrun (hKc _ _ ⟨by rw [put_size]; exact h1, hput (Ne.symm hne.2.2.2.1) h2, fun h => hput (Ne.symm hne.2.2.2.2.1) (h3 (by simpa [insJ] using h)), fun h => hput (Ne.symm hne.2.2.2.2.2) (h4 (by simpa [insJ] using h)), ?_⟩)
      have h8 := h7.put H.G (dst := some d3) (v := .any) (y := goInt (cur.toList.take 7).length) (fun d e => by cases e; omega) (.im _ _ (.any _))
      have e1 : updO (upd (upd (upd E d1 .any) d2 .any) d3 .any) (some d3) .any = upd (upd (upd E d1 .any) d2 .any) d3 .any := upd_self _ _ _ (same d3 (.inr (.inr rfl)))
      rw [e1] at h8
      rw [if_pos (by simp [insJ])]
      exact h8
    | i + 3, ho => simp at ho
end Go.Vai
namespace Go.Vai
open Go.RowKit
theorem freeze_semD {S : Sp} {dst : Option Nat} {op : Op} {ty : TypeId} {K : Env → Store → Prop} {E : Env} {σ : Store} (F : List Nat) (h : semD S dst op ty K (frE (inI F) σ E) (frS (inI F) σ))
    (hF : (F.all fun i => !S.old i && !S.pin i) = true := by kernel_rfl) : semD S dst op ty K E σ := by
  intro pos after guard C H n a w Kc Q ⟨_, _, _, hw⟩ hKc
  simp only [List.all_eq_true, Bool.and_eq_true, Bool.not_eq_true'] at hF
  have hin : ∀ {id}, inI F id = true → id ∈ F := fun h => List.contains_iff_mem.1 h
  have no : ∀ {id} {b : Bool}, b = true → (inI F id = true → b = false) → inI F id = false := fun {id b} hb hh => by
    cases hi : inI F id with
    | false => rfl
    | true => have := hh hi; rw [hb] at this; cases this
  exact h pos after guard C H n a w Kc Q ⟨_, _, _, hw.freeze H (inI F) (fun id hid => no hid fun hi => (hF id (hin hi)).2) (fun id hid => no hid fun hi => (hF id (hin hi)).1)⟩ hKc
section
variable {P : Program} {S : Sp} {kd bi : Bool} {dst : Option Nat} {ty t : TypeId} {K Kb : Env → Store → Prop} {E : Env} {σ : Store} (aso : Array Operand) (ts : Array TypeId)
@[go_sem] theorem cls_ustr : cls P (.call { callee := .builtin .unsafeString, args := aso, argTypes := ts }) ty = 5 := rfl
@[go_sem] theorem cls_copy : cls P (.call { callee := .builtin .copy, args := aso, argTypes := ts }) ty = 5 := rfl
@[go_sem] theorem cls_cap : cls P (.call { callee := .builtin .cap, args := aso, argTypes := ts }) ty = 5 := rfl
@[go_sem] theorem cls_s2a (x : Operand) : cls P (.sliceToArrayPointer t x) ty = 5 := rfl
@[go_sem ↓] theorem aop_ustr : aopC S kd bi dst (.call { callee := .builtin .unsafeString, args := aso, argTypes := ts }) ty K Kb E σ = semD S dst (.call { callee := .builtin .unsafeString, args := aso, argTypes := ts }) ty Kb E σ := rfl
@[go_sem ↓] theorem aop_copy : aopC S kd bi dst (.call { callee := .builtin .copy, args := aso, argTypes := ts }) ty K Kb E σ = semD S dst (.call { callee := .builtin .copy, args := aso, argTypes := ts }) ty Kb E σ := rfl
@[go_sem ↓] theorem aop_cap : aopC S kd bi dst (.call { callee := .builtin .cap, args := aso, argTypes := ts }) ty K Kb E σ = semD S dst (.call { callee := .builtin .cap, args := aso, argTypes := ts }) ty Kb E σ := rfl
@[go_sem ↓] theorem aop_s2a (x : Operand) : aopC S kd bi dst (.sliceToArrayPointer t x) ty K Kb E σ = semD S dst (.sliceToArrayPointer t x) ty Kb E σ := rfl
end
end Go.Vai
namespace Go.Vai
open Go.RowKit
variable {P : Program} {C : Fx} {w : World} {ρ : Nat → Option Nat} {Im : Nat → Prop} {M : Str} {E : Env} {σ : Store} {a : Act}
def spZ (P : Program) (f : FuncId) (N l : Nat) (bad : List Nat) : Sp := { P, N, b := 131072 * (f + 1), pin := fun _ => false, yl := l, Y := seqY, bad := inI bad, old := fun i => Nat.blt (i / 16) (131072 * (f + 1)) || Nat.ble (131072 * (f + 1) + 100000) (i / 16) }
theorem spZ_mono (P : Program) (f : FuncId) (N l : Nat) (bad : List Nat) : YMono (spZ P f N l bad) := fun _ _ _ _ hK h => seqY_mono hK h
section
variable (P : Program) (f N l : Nat) (bad : List Nat)
@[go_sem] theorem spZ_P : (spZ P f N l bad).P = P := rfl
@[go_sem] theorem spZ_b : (spZ P f N l bad).b = 131072 * (f + 1) := rfl
@[go_sem] theorem spZ_bad (id : Nat) : (spZ P f N l bad).bad id = bad.contains id := rfl
@[go_sem] theorem spZ_N : (spZ P f N l bad).N = N := rfl
@[go_sem] theorem spZ_pin (id : Nat) : (spZ P f N l bad).pin id = false := rfl
@[go_sem] theorem spZ_yl : (spZ P f N l bad).yl = l := rfl
@[go_sem] theorem spZ_Y : (spZ P f N l bad).Y = seqY := rfl
end
theorem sok_ofB {f : FuncId} {fn : Func} {c : Code} {args : List AV} {xs : List (List AV)} {l0 : List (Nat × Blk)} (bad : List Nat) (hf : P.funcs[f]? = some fn) (hb : fn.body = some c) (hok : fnB P fn bad c = true) (hmo : P.follows .mixedOrders = true)
    (hlen : args.length < fn.ntmps) (hres : fn.results = #[]) (hxs : AV.namesL allB (xs.map .tup) = false)
    (hold : (l0.all fun p => Nat.blt (p.1 / 16) (131072 * (f + 1)) || Nat.ble (131072 * (f + 1) + 100000) (p.1 / 16)) = true)
    (h : ∀ l, awpC (spZ P f fn.ntmps l bad) c (fun e => match e with | .normal => fun E _ => E fn.ntmps = .tup [] ∨ E fn.ntmps = .any | .ret => fun E _ => E fn.ntmps = .tup [] ∨ E fn.ntmps = .any | _ => fun _ _ => False) (upd (initE (.yld l :: args)) fn.ntmps (.tup (xs.map .tup))) (stO l0)) : SOK P f args (stO l0) xs := by
  simp only [fnB, Bool.and_eq_true, Bool.not_eq_true'] at hok
  obtain ⟨⟨⟨h1, h2⟩, h3⟩, h4⟩ := hok
  have h4 := Nat.le_of_ble_eq_true h4
  have h1 := codeOK_of c h1
  have h : ∀ l, awp (spZ P f fn.ntmps l bad) c (retG P fn fun _ E _ => E fn.ntmps = .tup [] ∨ E fn.ntmps = .any) (upd (initE (.yld l :: args)) fn.ntmps (encG xs false)) (stO l0) := fun l =>
    awpC_of (spZ_mono P f fn.ntmps l bad) c (fun e E σ hk => by
      cases e <;> first | exact hk.elim | (simp only [retG, hres]; exact hk)) (h l)
  refine ⟨enters hf hb h3, fun w Im ρ vs l G M0 hG hinv hgk hargs hM hJ hans hG0 => ?_⟩
  let C : Fx := { w0 := w, X0 := fun b => (∃ id, ρ id = some b) ∨ M0.m b, Im0 := Im, G := fun g M w => ∃ ys s, g = encG ys s ∧ AV.namesL allB (ys.map .tup) = false ∧ G ys s M w, N := fn.ntmps, rd := none, pin := fun _ => none, J0 := Im, R0 := fun id b => ρ id = some b }
  have H : Holds (spZ P f fn.ntmps l bad) C := by
    refine ⟨rfl, ?_, ?_, hmo, fun _ _ hp => (by cases hp), fun _ hp => (by cases hp), h4, fun _ => rfl, fun id b _ hb => ?_, hgk, fun b hb => ⟨fun hx => ?_, hinv.low b (hgk.im hb)⟩⟩
    rotate_left 2
    · cases hs : stO l0 id with
      | none => exact absurd hs (hinv.live id b hb)
      | some k => exact List.all_eq_true.1 hold _ (stO_mem hs)
    · rcases hx with ⟨id, hid⟩ | hx
      · exact hinv.apart id b hid (hgk.im hb)
      · exact (hM b hx).2.2 (hgk.im hb)
    · rintro g M w w' ⟨ys, s, e, hn, hg⟩ hb hs ho ht hout
      exact ⟨ys, s, e, hn, hG ys s (.v undef) M w w' hg hb hs ho ht hout⟩
    · intro aso g K hY w1 Im1 M1 vs1 hI hM1 hJ1 hL hvs ⟨ys, s, e, hn, hg⟩ n
      subst e
      cases s with
      | true => exact hY.elim
      | false =>
        cases ys with
        | nil => exact hY.elim
        | cons x rest =>
          obtain ⟨rfl, hK1, hK2⟩ := hY
          obtain ⟨hnx, hnr⟩ := namesL_cons hn
          obtain ⟨fn', tmps, assign, body, hr, hround⟩ := hans aso rest M1 w1 Im1 vs1 hg hI hM1 hJ1 hL hvs n
          refine ⟨fn', tmps, assign, body, hr, hround.mono ?_⟩
          rintro e w' ⟨b, M', rfl, hg', hm, hj, hx⟩
          cases b with
          | true => exact ⟨_, .tup (rest.map .tup), M', rfl, ⟨true, rfl⟩, hK1, fun p => names_all (a := .tup (rest.map .tup)) hnr p, ⟨rest, false, rfl, hnr, hg'⟩, hm, hj, hx⟩
          | false => exact ⟨_, .any, M', rfl, ⟨false, rfl⟩, hK2, fun p => rfl, ⟨rest, true, rfl, hnr, hg'⟩, hm, hj, hx⟩
  have hyl : Reps w ρ Im (.yld l :: args) (.func (.yield l) #[] #[] :: vs) := by
    refine ⟨by simp [hargs.1], fun j c y hc hy => ?_⟩
    cases j with
    | zero => simp at hc hy; subst hc; subst hy; exact .im _ _ (.yld l)
    | succ j => exact hargs.2 j c y (by simpa using hc) (by simpa using hy)
  have henv : EnvRep w ρ Im (upd (initE (.yld l :: args)) fn.ntmps (encG xs false)) ((.func (.yield l) #[] #[] :: vs).toArray ++ Array.replicate (fn.ntmps - (.func (.yield l) #[] #[] :: vs).toArray.size) undef) := fun t y hy => by
    have hlt := (Array.getElem?_eq_some_iff.1 hy).1
    have hsz : ((Value.func (.yield l) #[] #[] :: vs).toArray ++ Array.replicate (fn.ntmps - (.func (.yield l) #[] #[] :: vs).toArray.size) undef).size = fn.ntmps := by
      have := hargs.1; simp; omega
    rw [hsz] at hlt
    simp only [upd]; rw [if_neg (by omega)]
    exact env_init hyl t y hy
  refine body_sound (E0 := upd (initE (.yld l :: args)) fn.ntmps (encG xs false)) (S := spZ P f fn.ntmps l bad) (C := C) (vs := .func (.yield l) #[] #[] :: vs) (σ0 := stO l0) (ρ0 := ρ) (Im0 := Im) (M0 := M0) H rfl hf hb rfl h1 h2 ?_ (h l) fun E σ' tm w' ρ' I M us ys hk hrest hr => ?_
  · refine ⟨hinv, henv, (?_ : _ = fn.ntmps), Ext.refl _ _, fun i b hi => .inl ⟨.inl ⟨i, hi⟩, hi⟩, fun b hb => .inl hb, fun p => ?_, ?_, hJ, fun b hb => ⟨(hM b hb).1, (hM b hb).2.1, (hM b hb).2.2, .inl (.inr hb)⟩, fun l r hr => (by cases hr), .nil, fun d hd => (by cases hd), fun b hb => ?_, fun id b hb => (by cases hb), fun b hb => hb⟩
    · have := hargs.1; simp; omega
    · show AV.namesB p (upd (initE (.yld l :: args)) fn.ntmps (encG xs false) fn.ntmps) = false
      rw [upd_same]; exact names_all (a := .tup (xs.map .tup)) hxs p
    · show ∃ ys s, upd (initE (.yld l :: args)) fn.ntmps (encG xs false) fn.ntmps = encG ys s ∧ _
      rw [upd_same]; exact ⟨xs, false, rfl, hxs, hG0⟩
    · rcases hb with ⟨r, hr⟩ | hd
      · cases hr
      · cases hd
  · obtain ⟨zs, s, e, _, hg⟩ := hrest.g
    refine ⟨_, zs, s, M, rfl, ?_, hg, hrest.ext⟩
    have e : E fn.ntmps = encG zs s := e
    rw [e] at hk
    cases s with
    | true => exact .inr rfl
    | false =>
      rcases hk with hk | hk
      · refine .inl ?_
        simp only [encG, AV.tup.injEq, List.map_eq_nil_iff] at hk; exact hk
      · cases hk
theorem freeze_reg {S : Sp} (hY : YMono S) {id : Nat} {ops : Array Oper} {draw : Bool} {Q : Exit → Env → Store → Prop} {E : Env} {σ : Store} (F : List Nat) (h : regC S draw ops (Q .normal) (frE (inI F) σ E) (frS (inI F) σ))
    (hF : (F.all fun i => !S.old i && !S.pin i) = true := by kernel_rfl) (hfit : codeQ S.P S.N noBad (.region id ops draw) = true := by kernel_rfl) : semC S (.region id ops draw) Q E σ := by
  simp only [List.all_eq_true, Bool.and_eq_true, Bool.not_eq_true'] at hF
  have hin : ∀ {id}, inI F id = true → id ∈ F := fun h => List.contains_iff_mem.1 h
  have no : ∀ {id} {b : Bool}, b = true → (inI F id = true → b = false) → inI F id = false := fun {id b} hb hh => by
    cases hi : inI F id with
    | false => rfl
    | true => have := hh hi; rw [hb] at this; cases this
  exact freeze_mk hY F h (fun id hid => no hid fun hi => (hF id (hin hi)).2) (fun id hid => no hid fun hi => (hF id (hin hi)).1) hfit
theorem op_mk {S : Sp} [hY : Plain S] {dst : Option Nat} {op : Op} {ty : TypeId} {K : Env → Store → Prop} {E : Env} {σ : Store} (h : aopC S true true dst op ty K K E σ)
    (hfit : (dst.all (decide <| · < S.N) && Op.low S.N op && cls S.P op ty != 9) = true := by kernel_rfl) : semD S dst op ty K E σ := by
  intro pos after guard C H n a w Kc Q ⟨ρ, Im, M, hw⟩ hKc
  exact aop_sound H hw (o := ⟨dst, op, ty, pos, after, guard⟩) hfit true true (fun h => by cases h) (aopC_of hY.mono (fun _ _ h => h) (fun _ _ h => h) h) (fun _ _ _ _ => hKc _ _ _ _) (fun _ _ _ _ => hKc _ _ _ _)
theorem frz_free {c : AV} (h : AV.namesB allB c = false) (L p : Nat → Bool) (σ : Store) : frz L p σ c = c := by unfold frz; rw [if_pos (names_all h _)]
@[go_sem] theorem frz_yld (L p : Nat → Bool) (σ : Store) (l : Nat) : frz L p σ (.yld l) = .yld l := rfl
end Go.Vai
namespace Go.Vai
open Go.RowKit
def nnB : AV → Bool
  | .new .. => false
  | .nptr .. => false
  | _ => true
theorem R1_nn {w : World} {Im : Nat → Prop} {r : AV} {y : Value} {ob : Option Nat} (h : nnB r = true) : R1 w Im r y ob ↔ (ob = none ∧ IRep w Im r y) := by
  cases r <;> first | exact Iff.rfl | cases h
theorem RL_if {w : World} {Im : Nat → Prop} : ∀ {rs ss : List AV} {ys : List Value} {obs : List (Option Nat)}, (rs.all nnB) = true → (ss.all nnB) = true → asIfL rs ss → RL w Im rs ys obs → RL w Im ss ys obs
  | [], [], _, _, _, _, _, h => h
  | r :: rs, s :: ss, [], _, _, _, _, h => (h : False).elim
  | r :: rs, s :: ss, _ :: _, [], _, _, _, h => (h : False).elim
  | r :: rs, s :: ss, y :: ys, ob :: obs, h1, h2, h3, h => by
    simp only [List.all_cons, Bool.and_eq_true] at h1 h2
    obtain ⟨e1, e2⟩ := (R1_nn h1.1).1 h.1
    exact ⟨(R1_nn h2.1).2 ⟨e1, h3.1 _ _ _ e2⟩, RL_if h1.2 h2.2 h3.2 h.2⟩
  | [], _ :: _, _, _, _, _, h, _ => h.elim
  | _ :: _, [], _, _, _, _, h, _ => h.elim
theorem Ev.resL {P : Program} {f : FuncId} {args : List AV} {rs ss : List AV} (h : Ev P f args (.tup rs)) (h3 : asIfL rs ss) (h1 : (rs.all nnB) = true := by rfl) (h2 : (ss.all nnB) = true := by rfl) : Ev P f args (.tup ss) := by
  rintro xs r0 ⟨rfl, rfl⟩
  obtain ⟨a, b⟩ := h xs (.tup rs) ⟨rfl, rfl⟩
  refine ⟨a, fun w Im vs hlow hgk hv => (b w Im vs hlow hgk hv).mono fun e w' ⟨y, he, hx, Im1, g1, g2, ys, obs, g3, g4, g5⟩ => ⟨y, he, hx, Im1, g1, g2, ys, obs, g3, RL_if h1 h2 h3 g4, g5⟩⟩
theorem asIf_agg {cs ds : List AV} (h : asIfL cs ds) : (AV.agg cs).asIf (.agg ds) := by
  intro w Im y hy
  cases hy with
  | agg _ ys hl h1 hh =>
    have := asIfL_reps h (vs := ys) ⟨hl, hh⟩
    exact .agg _ ys this.1 h1 this.2
end Go.Vai
namespace Go.Vai
open Go.RowKit
def stepsJ1 (x : Nat) (S : Sp) (ops : Array Oper) (J : (Nat → Bool) → Env → Store → Prop) : Nat → List Oper → Prop
  | _, [] => True
  | i, o :: l => (i ≠ x → ∀ D, D i = false → (∀ e ∈ o.after.toList, Region.binds .any e = true → D e.on = true) → ∀ E σ, J D E σ → opsC S false ops i [o] (J (insJ D i)) E σ) ∧ stepsJ1 x S ops J (i + 1) l
theorem stepsJ1_at {x : Nat} {S : Sp} {ops : Array Oper} {J : (Nat → Bool) → Env → Store → Prop} : ∀ {l : List Oper} {n i : Nat} {o : Oper}, stepsJ1 x S ops J n l → l[i]? = some o → n + i ≠ x →
    ∀ D, D (n + i) = false → (∀ e ∈ o.after.toList, Region.binds .any e = true → D e.on = true) → ∀ E σ, J D E σ → gopC S true true ops.toList o (J (insJ D (n + i))) (J (insJ D (n + i))) E σ
  | [], _, _, _, _, h, _ => by simp at h
  | o' :: l, n, i, o, hq, h, hx => by
    cases i with
    | zero => simp at h; subst h; exact hq.1 hx
    | succ i =>
      have := stepsJ1_at hq.2 (by simpa using h) (by omega)
      rwa [show n + 1 + i = n + (i + 1) from by omega] at this
theorem region_J1 {S : Sp} (hY : YMono S) {id : Nat} {ops : Array Oper} {Q : Exit → Env → Store → Prop} {E : Env} {σ : Store} (J : (Nat → Bool) → Env → Store → Prop)
    (x : Nat) (h0 : J (fun _ => false) E σ) (hsteps : stepsJ1 x S ops J 0 ops.toList)
    (hx : ∀ o, ops[x]? = some o → o.guard = none ∧ ∀ D, D x = false → (∀ e ∈ o.after.toList, Region.binds .any e = true → D e.on = true) → ∀ E σ, J D E σ → semV S o (J (insJ D x)) E σ) (hend : ∀ D E σ, (∀ i, i < ops.size → D i = true) → J D E σ → Q .normal E σ)
    (hfit : ops.toList.all (Oper.fits S.P S.N) = true := by kernel_rfl) (hedge : edgesQ 0 ops.toList = true := by kernel_rfl) : semC S (.region id ops true) Q E σ := by
  intro C H n R hR a w hs
  have hall : ∀ (i : Nat) (o : Oper), ops[i]? = some o → Oper.fits S.P S.N o = true := fun i o ho => List.all_eq_true.1 hfit o (Array.mem_toList_iff.2 (Array.mem_of_getElem? ho))
  have hlist : ∀ (i : Nat) (o : Oper), ops[i]? = some o → ops.toList[i]? = some o := fun i o ho => by rw [Array.getElem?_toList]; exact ho
  refine wpIn_region_any H.mo ?_
  have key : ∀ (fuel : Nat) (listed : Array Bool) (E : Env) (σ : Store) (a : Act) (w : World), listed.size = ops.size → (rem ops listed).length ≤ fuel →
      J (fun i => listed.getD i false) E σ → St C E σ a w → wpAnyIn (FW C.rdl) n S.P .any ops R fuel listed a w := by
    intro fuel
    have full : ∀ (listed : Array Bool), listed.size = ops.size → rem ops listed = [] → ∀ i, i < ops.size → listed.getD i false = true := fun listed hsz hr i hi => by
      cases hl : listed.getD i false with
      | true => rfl
      | false =>
        have : i ∈ rem ops listed := mem_rem.2 ⟨hi, by
          simp only [Array.getD_eq_getD_getElem?] at hl ⊢
          rw [Array.getElem?_eq_getElem (by omega)] at hl ⊢; exact hl⟩
        rw [hr] at this; simp at this
    induction fuel with
    | zero =>
      intro listed E σ a w hsz hle hv hs
      have h0 : rem ops listed = [] := List.eq_nil_of_length_eq_zero (by omega)
      refine ⟨?_, hR _ _ _ _ _ (hend _ _ _ (full listed hsz h0) hv) hs⟩
      cases hr : Region.ready .any ops listed with
      | nil => rfl
      | cons i l =>
        have hi : i ∈ Region.ready .any ops listed := by rw [hr]; simp
        obtain ⟨h1, o, ho, _⟩ := mem_ready.1 hi
        have : i ∈ rem ops listed := mem_rem.2 ⟨(Array.getElem?_eq_some_iff.1 ho).1, h1⟩
        rw [h0] at this; simp at this
    | succ fuel ih =>
      intro listed E σ a w hsz hle hv hs
      have getD_same : ∀ i, i < ops.size → listed.getD i true = listed.getD i false := fun i hi => by
        simp only [Array.getD_eq_getD_getElem?]; rw [Array.getElem?_eq_getElem (by omega)]; rfl
      refine ⟨fun hr0 => ?_, fun i hi => ?_⟩
      · have hr : rem ops listed = [] := by
          cases hr : rem ops listed with
          | nil => rfl
          | cons i l =>
            exfalso
            have hm : i ∈ rem ops listed := by rw [hr]; simp
            obtain ⟨hlt, hun⟩ := mem_rem.1 hm
            have : i ∈ Region.ready .any ops listed := mem_ready.2 ⟨hun, _, Array.getElem?_eq_getElem hlt, fun e he hb => by
              have hei := edgesQ_at hedge (hlist i _ (Array.getElem?_eq_getElem hlt)) e he hb
              cases hl : listed.getD e.on false with
              | true => rfl
              | false =>
                have hme : e.on ∈ rem ops listed := mem_rem.2 ⟨by omega, by rw [getD_same _ (by omega)]; exact hl⟩
                have hsort := rem_sorted (ops := ops) listed
                rw [hr] at hme hsort
                rcases List.mem_cons.1 hme with h | h
                · omega
                · have := (List.pairwise_cons.1 hsort).1 _ h; omega⟩
            rw [hr0] at this; simp at this
        exact hR _ _ _ _ _ (hend _ _ _ (full listed hsz hr) hv) hs
      · obtain ⟨hun, o, ho, hedges⟩ := mem_ready.1 hi
        have hlt : i < ops.size := (Array.getElem?_eq_some_iff.1 ho).1
        have hm : i ∈ rem ops listed := mem_rem.2 ⟨hlt, hun⟩
        obtain ⟨pre, post, hsplit⟩ := List.append_of_mem hm
        have hset := rem_set hsz hsplit
        have hD : (fun k => (listed.setIfInBounds i true).getD k false) = insJ (fun k => listed.getD k false) i := by
          funext k
          simp only [insJ, Array.getD_eq_getD_getElem?]
          by_cases hk : k = i
          · subst hk; simp [hsz, hlt]
          · rw [Array.getElem?_setIfInBounds_ne (Ne.symm hk)]; simp [hk]
        have next : ∀ E' σ' a' w', J (insJ (fun k => listed.getD k false) i) E' σ' → St C E' σ' a' w' → wpAnyIn (FW C.rdl) n S.P .any ops R fuel (listed.setIfInBounds i true) a' w' := fun E' σ' a' w' h1 h3 => by
          refine ih (listed.setIfInBounds i true) E' σ' a' w' (by simpa using hsz) ?_ (by rw [hD]; exact h1) h3
          rw [hset]; rw [hsplit] at hle; simp at hle ⊢; omega
        by_cases hix : i = x
        · subst hix
          obtain ⟨hgn, hs1⟩ := hx o ho
          have hs2 := hs1 (fun k => listed.getD k false) (by rw [← getD_same i hlt]; exact hun) (fun e he hb => hedges e (Array.mem_toList_iff.1 he) hb) E σ hv
          refine wpTurn_in ho ?_
          unfold wpTurn
          rw [if_pos (by simp [Region.wanted, hgn])]
          exact hs2 C H n a w _ _ hs fun E' σ' a' w' h1 h2 => next E' σ' a' w' h1 h2
        have hstep := stepsJ1_at hsteps (hlist i o ho) (by omega) (fun k => listed.getD k false) (by rw [Nat.zero_add, ← getD_same i hlt]; exact hun) (fun e he hb => hedges e (Array.mem_toList_iff.1 he) hb) E σ hv
        rw [Nat.zero_add] at hstep
        have hg := gopC_of hY (K' := J (insJ (fun k => listed.getD k false) i)) (Kb' := J (insJ (fun k => listed.getD k false) i)) (fun _ _ h => h) (fun _ _ h => h) hstep
        obtain ⟨ρ, Im, M, hw⟩ := hs
        exact wpTurn_in ho (gop_sound (Kc := wpAnyIn (FW C.rdl) n S.P .any ops R fuel (listed.setIfInBounds i true)) H hw hall (hall i o ho) true true (fun h => by cases h) hg (fun E' σ' a' w' h1 h2 => next E' σ' a' w' h1 h2) fun E' σ' a' w' h1 h2 => next E' σ' a' w' h1 h2)
  exact key ops.size _ E σ a _ (by simp) (by unfold rem; exact Nat.le_trans (List.length_filter_le _ _) (by simp)) (by
    have : (fun i => (Array.replicate ops.size false).getD i false) = fun _ => false := by
      funext i; simp only [Array.getD_eq_getD_getElem?, Array.getElem?_replicate]; split <;> rfl
    rw [this]; exact h0) (hs.drew H.G (w.drawn + 1))
theorem eqDeep_mk {S : Sp} {dst : Option Nat} {t ty t' : TypeId} {x y : Operand} {K : Env → Store → Prop} {E : Env} {σ : Store} {us vs : List Value} {la lb : List Lit} (D m : Nat) (b : Bool)
    (hx : ev E x = .agg (us.map .v)) (hy : ev E y = .agg (vs.map .v)) (hla : S.P.keyLits D t us = some la) (hlb : S.P.keyLits D t vs = some lb) (hkt : S.P.keyTypeAt m t = true) (hm : m ≤ 10000)
    (hfu : (Value.agg us.toArray).formed S.P t = true) (hfv : (Value.agg vs.toArray).formed S.P t = true) (hu : S.P.underlying t = some (.struct (S.P.fieldsOf t))) (hg : S.P.eqGuardType S.P.depth t = false) (hb : b = true ↔ la = lb)
    (hK : K (updO E dst (.v (.bool b))) σ) (hfit : (dst.all (decide <| · < S.N) && Op.low S.N (.binOp .eql t x y t')) = true := by kernel_rfl) : semD S dst (.binOp .eql t x y t') ty K E σ := by
  refine semD_pure _ hfit (fun _ e => by cases e) (fun C w ρ Im M a H hw rep => ?_) hK
  have hrx := rep x (by simp [Op.operands])
  have hry := rep y (by simp [Op.operands])
  rw [hx] at hrx; rw [hy] at hry
  have key : ∀ (zs : List Value) (z : Value), Rep w ρ Im (.agg (zs.map .v)) z → z = .agg zs.toArray := fun zs z hr => by
    obtain ⟨xs, hxe, hxl, _, hxr⟩ := hr.agg_inv
    subst hxe
    congr 1; congr 1
    refine List.ext_getElem? fun i => ?_
    by_cases hi : i < zs.length
    · have h1 : (zs.map AV.v)[i]? = some (.v zs[i]) := by simp [hi]
      have hi2 : i < xs.length := by simp at hxl; omega
      have := (hxr i _ _ h1 (List.getElem?_eq_getElem hi2)).v_inv
      rw [List.getElem?_eq_getElem hi, List.getElem?_eq_getElem hi2, this]
    · rw [List.getElem?_eq_none (by simp at hxl; omega), List.getElem?_eq_none (by omega)]
  have ex := key _ _ hrx
  have ey := key _ _ hry
  obtain ⟨r, hr, hiff⟩ := run_equalIn_deep (P := S.P) (10000 - m) m t hkt w D D (.agg us.toArray) (.agg vs.toArray) la lb hfu hfv (by simpa [Value.cells] using hla) (by simpa [Value.cells] using hlb)
  rw [Nat.sub_add_cancel hm] at hr
  have hrb : r = b := by rw [Bool.eq_iff_iff, hiff, hb]
  subst hrb
  refine ⟨.bool r, fun pos after guard => ?_, .im _ _ (.v _)⟩
  have g1 := run_eqGuard_agg (P := S.P) w .eql t x y us.toArray vs.toArray hg
  have g2 : (binOp .eql t (.agg us.toArray) (.agg vs.toArray)).run S.P w = .ok (.bool r) w := by rw [run_eql_struct, hr]; rfl
  simp only [execOp, ex, ey, Sem.run_bind, g1, g2, Result.andThen_ok, Sem.run_pure]
end Go.Vai
namespace Go.Vai
open Go.RowKit
theorem nilOwn_C {S : Sp} {c0 : Code} {Q : Exit → Env → Store → Prop} {E : Env} {σ : Store} (id id' i j e sz : Nat) {k : Blk} {el : AV} (hk : σ id = some k) (hid : id' ≠ id) (he : k.es[i]? = some el) (hc : el.cells[j]? = some (.v (.slice none 0 0))) (hkz : k.sz ≠ 0) (hnk : AV.namesL (isId id') k.es = false) (hpin : S.pin id' = false)
    (h : semC S c0 Q (killE (isId id') E) (updS (updS (killS (isId id') σ) id' ⟨e, sz, []⟩) id ⟨k.e, k.sz, k.es.set i (setC el j (.own id' sz 0 0))⟩)) : semC S c0 Q E σ := by
  intro C H n R hR a w ⟨ρ, Im, M, hw⟩
  have hpc : C.pin id' = none := by
    cases hp : C.pin id' with
    | none => rfl
    | some b => rw [H.pin id' b hp] at hpin; cases hpin
  have h1 := hw.kill H.G (isId id') (pin_not hpc)
  have h2 := h1.newNil H.G (d := id') hpc (clean_kill (by simp [isId]) E σ) e sz (dst := none) (v := .any) (y := undef) (fun d' e => by cases e) (.im _ _ (.any _))
  have hkk : k.kill (isId id') = k := by simp [Blk.kill, hnk]
  have hk3 : (updS (killS (isId id') σ) id' ⟨e, sz, []⟩) id = some k := by
    rw [updS_ne _ _ _ _ (Ne.symm hid)]
    simp only [killS]
    rw [if_neg (by simp [isId]; exact fun e => hid e.symm), hk]; simp [hkk]
  refine h C H n R hR a w ⟨updR (killR (isId id') ρ) id' none, Im, M, ?_⟩
  have hown : ∀ v : World, Rep v (updR (killR (isId id') ρ) id' none) Im (.own id' sz 0 0) (.slice none 0 0) := fun v => .ownNil _ _ (by simp)
  have h2' : Wit C (killE (isId id') E) (updS (killS (isId id') σ) id' ⟨e, sz, []⟩) a w (updR (killR (isId id') ρ) id' none) Im M := h2
  have hels : ∀ v ∈ (k.es.set i (setC el j (.own id' sz 0 0))), ∃ v0 ∈ k.es, v.cells.length = v0.cells.length := fun v hv => by
    rcases List.mem_or_eq_of_mem_set hv with hv | rfl
    · exact ⟨v, hv, rfl⟩
    · refine ⟨el, List.mem_of_getElem? he, ?_⟩
      have hj := (List.getElem?_eq_some_iff.1 hc).1
      rw [setC_cells (by simp; omega)]; simp; omega
  have hcell : ∀ (i' : Nat) (e' : AV) (j' : Nat) (c : AV), (k.es.set i (setC el j (.own id' sz 0 0)))[i']? = some e' → e'.cells[j']? = some c → (∃ e0, k.es[i']? = some e0 ∧ e0.cells[j']? = some c) ∨ (c = .own id' sz 0 0 ∧ i' = i ∧ j' = j) := fun i' e' j' c he' hc' => by
    rw [List.getElem?_set] at he'
    split at he'
    · rename_i hii
      subst hii
      split at he'
      · cases he'
        have hj := (List.getElem?_eq_some_iff.1 hc).1
        rw [setC_cells (by simp; omega)] at hc'
        simp only [AV.cells_own, List.length_singleton] at hc'
        rcases Nat.lt_trichotomy j' j with hlt | rfl | hgt
        · rw [List.append_assoc, List.getElem?_append_left (by simp; omega), List.getElem?_take, if_pos hlt] at hc'
          exact .inl ⟨el, he, hc'⟩
        · rw [List.append_assoc, List.getElem?_append_right (by simp; omega)] at hc'
          have : j' - (el.cells.take j').length = 0 := by simp; omega
          rw [this] at hc'; simp at hc'; exact .inr ⟨hc'.symm, rfl, rfl⟩
        · rw [List.getElem?_append_right (by simp; omega), List.getElem?_drop] at hc'
          have : j + 1 + (j' - (el.cells.take j ++ [AV.own id' sz 0 0]).length) = j' := by simp; omega
          rw [this] at hc'
          exact .inl ⟨el, he, hc'⟩
      · cases he'
    · exact .inl ⟨e', he', hc'⟩
  refine h2'.step H.G (Ext.refl _ _) ?_ h2'.env rfl rfl rfl (fun _ _ hb => .inl hb) (fun _ hb => .inl hb) h2'.pin (fun _ h => h)
  have hi := h2'.inv
  refine ⟨fun q k2 hk2 hr => ?_, fun q k2 b hk2 hr hz => ?_, fun q k2 b hk2 hr hz => ?_, hi.inj, fun q b hr hs' => ?_, hi.apart, hi.low⟩
  · by_cases e : q = id
    · subst e
      have h0 := hi.nil q k hk3 hr
      rw [h0] at he; simp at he
    · rw [updS_ne _ _ _ _ e] at hk2; exact hi.nil q k2 hk2 hr
  · by_cases e : q = id
    · subst e; simp at hk2; subst hk2; exact absurd hz hkz
    · rw [updS_ne _ _ _ _ e] at hk2; exact hi.map q k2 b hk2 hr hz
  · by_cases e : q = id
    · subst e; simp at hk2; subst hk2
      obtain ⟨cur, hb, hl, hs, hcc⟩ := hi.blk q k b hk3 hr hkz
      refine ⟨cur, hb, fun v hv => ?_, by simpa using hs, fun i' e' j' c he' hc' => ?_⟩
      · obtain ⟨v0, h0, h1⟩ := hels v hv
        rw [h1]; exact hl v0 h0
      · rcases hcell i' e' j' c he' hc' with ⟨e0, h0, h1⟩ | ⟨rfl, rfl, rfl⟩
        · exact hcc i' e0 j' c h0 h1
        · obtain ⟨x, hx, h1, hr'⟩ := hcc i' el j' _ he hc
          have := hr'.v_inv
          subst this
          exact ⟨_, hx, h1, hown w⟩
    · rw [updS_ne _ _ _ _ e] at hk2; exact hi.blk q k2 b hk2 hr hz
  · by_cases e : q = id
    · subst e; simp at hs'
    · rw [updS_ne _ _ _ _ e] at hs'; exact hi.live q b hr hs'
theorem reg_mk {S : Sp} (hY : YMono S) {id : Nat} {ops : Array Oper} {draw : Bool} {Q : Exit → Env → Store → Prop} {E : Env} {σ : Store} (h : regC S draw ops (Q .normal) E σ)
    (hfit : codeQ S.P S.N noBad (.region id ops draw) = true := by kernel_rfl) : semC S (.region id ops draw) Q E σ := by
  intro C H n R hR a w ⟨ρ, Im, M, hw⟩
  have hok := codeOK_of _ hfit
  simp only [codeOK, Bool.and_eq_true, Bool.or_eq_true, Bool.not_eq_true', Bool.or_false, Bool.false_or, noBad, Bool.false_eq_true, false_or] at hok
  have hall : ∀ (i : Nat) (o : Oper), ops[i]? = some o → Oper.fits S.P S.N o = true := fun i o ho => List.all_eq_true.1 hok.1 o (Array.mem_toList_iff.2 (Array.mem_of_getElem? ho))
  unfold regC at h
  rw [struckC_eq] at h
  have hv := struck_mono (fun _ _ hk => opsC_of hY _ 0 (fun _ _ h => h) hk) _ _ h
  have hs : St C E σ a w := ⟨_, _, _, hw⟩
  cases draw with
  | false =>
    simp only [struck, Bool.false_eq_true, if_false] at hv
    refine wpIn_region ?_
    have := awpOps_sound H hall (n := n) (Q := R) (fun E σ a w hk hs => hR .normal E σ a w hk hs) ops.toList 0 _ _ a w (by simp) hv hs
    rw [Array.length_toList, ← List.range_eq_range'] at this
    exact this
  | true => exact draw_sound H ops hok.1 (by simpa using hok.2) n (Q .normal) R _ _ a w (fun E σ a w hk hs => hR .normal E σ a w hk hs) hv hs id
end Go.Vai
namespace Go.Vai
open Go.RowKit
mutual
def AV.rn (π : Nat → Nat) : AV → AV
  | .own a s i n => .own (π a) s i n
  | .ptr a s i j => .ptr (π a) s i j
  | .mref a => .mref (π a)
  | .agg cs => .agg (AV.rnL π cs)
  | .tup cs => .tup (AV.rnL π cs)
  | .clo g cs => .clo g (AV.rnL π cs)
  | a => a
def AV.rnL (π : Nat → Nat) : List AV → List AV
  | [] => []
  | c :: cs => AV.rn π c :: AV.rnL π cs
end
theorem rnL_eq (π : Nat → Nat) : ∀ cs : List AV, AV.rnL π cs = cs.map (AV.rn π)
  | [] => rfl
  | c :: cs => by rw [AV.rnL, rnL_eq π cs]; rfl
theorem rn_cells (π : Nat → Nat) (e : AV) : (AV.rn π e).cells = e.cells.map (AV.rn π) := by
  cases e <;> simp [AV.rn, AV.cells, rnL_eq]
mutual
theorem AV.rn_free (π : Nat → Nat) : ∀ a : AV, AV.namesB allB a = false → AV.rn π a = a
  | .own .., h => by simp [AV.namesB, allB] at h
  | .ptr .., h => by simp [AV.namesB, allB] at h
  | .mref .., h => by simp [AV.namesB, allB] at h
  | .agg cs, h => by rw [AV.rn, AV.rnL_free π cs h]
  | .tup cs, h => by rw [AV.rn, AV.rnL_free π cs h]
  | .clo g cs, h => by rw [AV.rn, AV.rnL_free π cs h]
  | .any, _ => rfl
  | .v .., _ => rfl
  | .sl .., _ => rfl
  | .pt .., _ => rfl
  | .new .., _ => rfl
  | .nptr .., _ => rfl
  | .yld .., _ => rfl
  | .mp .., _ => rfl
theorem AV.rnL_free (π : Nat → Nat) : ∀ cs : List AV, AV.namesL allB cs = false → AV.rnL π cs = cs
  | [], _ => rfl
  | c :: cs, h => by
    simp only [AV.namesL, Bool.or_eq_false_iff] at h
    rw [AV.rnL, AV.rn_free π c h.1, AV.rnL_free π cs h.2]
end
def Blk.rn (π : Nat → Nat) (k : Blk) : Blk := ⟨k.e, k.sz, AV.rnL π k.es⟩
section
variable {w : World} {ρ : Nat → Option Nat} {Im : Nat → Prop} {π : Nat → Nat}
theorem IRep.rn {a : AV} {y : Value} (h : IRep w Im a y) : IRep w Im (AV.rn π a) y := by
  induction h with
  | any y => exact .any y
  | v x => exact .v x
  | agg cs ys hl h1 _ ih =>
    rw [AV.rn, rnL_eq]
    refine .agg _ ys (by simpa using hl) h1 fun j c y hc hy => ?_
    rw [List.getElem?_map] at hc
    obtain ⟨c0, h0, rfl⟩ := Option.map_eq_some_iff.1 hc
    exact ih j c0 y h0 hy
  | slnil sz a cap => exact .slnil ..
  | sl sz es b o cap f hIm hcap hsz hcc hh ih => exact .sl sz es b o cap f hIm hcap hsz hcc hh
  | pt e j b o f hIm hcc hh ih => exact .pt e j b o f hIm hcc hh
  | tup vs ys hl _ ih =>
    rw [AV.rn, rnL_eq]
    refine .tup _ ys (by simpa using hl) fun j c y hc hy => ?_
    rw [List.getElem?_map] at hc
    obtain ⟨c0, h0, rfl⟩ := Option.map_eq_some_iff.1 hc
    exact ih j c0 y h0 hy
  | clo g caps ys hl _ ih =>
    rw [AV.rn, rnL_eq]
    refine .clo g _ ys (by simpa using hl) fun j c y hc hy => ?_
    rw [List.getElem?_map] at hc
    obtain ⟨c0, h0, rfl⟩ := Option.map_eq_some_iff.1 hc
    exact ih j c0 y h0 hy
  | yld l => exact .yld l
  | mpnil => exact .mpnil
  | mp es b ents clk f hIm hbb hl hes hh ih => exact .mp es b ents clk f hIm hbb hl hes hh
theorem Rep.rn (hπ : ∀ i, π (π i) = i) {a : AV} {y : Value} (h : Rep w ρ Im a y) : Rep w (fun i => ρ (π i)) Im (AV.rn π a) y := by
  induction h with
  | im a y h => exact .im _ y h.rn
  | agg cs ys hl h1 _ ih =>
    rw [AV.rn, rnL_eq]
    refine .agg _ ys (by simpa using hl) h1 fun j c y hc hy => ?_
    rw [List.getElem?_map] at hc
    obtain ⟨c0, h0, rfl⟩ := Option.map_eq_some_iff.1 hc
    exact ih j c0 y h0 hy
  | tup cs ys hl _ ih =>
    rw [AV.rn, rnL_eq]
    refine .tup _ ys (by simpa using hl) fun j c y hc hy => ?_
    rw [List.getElem?_map] at hc
    obtain ⟨c0, h0, rfl⟩ := Option.map_eq_some_iff.1 hc
    exact ih j c0 y h0 hy
  | clo g cs ys hl _ ih =>
    rw [AV.rn, rnL_eq]
    refine .clo g _ ys (by simpa using hl) fun j c y hc hy => ?_
    rw [List.getElem?_map] at hc
    obtain ⟨c0, h0, rfl⟩ := Option.map_eq_some_iff.1 hc
    exact ih j c0 y h0 hy
  | ownNil id sz h => exact .ownNil _ sz (by simp only [hπ]; exact h)
  | own id sz n b cap cur e hr hn hcap hb hsz hz => exact .own _ sz n b cap cur e (by simp only [hπ]; exact hr) hn hcap hb hsz hz
  | ownAt id sz i n b cap a hi hr hn ha hz => exact .ownAt _ sz i n b cap a hi (by simp only [hπ]; exact hr) hn ha hz
  | ptr id sz i j b hr hz => exact .ptr _ sz i j b (by simp only [hπ]; exact hr) hz
  | mref id b hr => exact .mref _ b (by simp only [hπ]; exact hr)
theorem Inv.rn {σ : Store} (hπ : ∀ i, π (π i) = i) (h : Inv w ρ Im σ) : Inv w (fun i => ρ (π i)) Im (fun i => (σ (π i)).map (Blk.rn π)) := by
  refine ⟨fun id k hk hr => ?_, fun id k b hk hr hz => ?_, fun id k b hk hr hz => ?_, fun i j b h1 h2 => ?_, fun id b hr hs => ?_, fun id b hr => h.apart _ b hr, h.low⟩
  · obtain ⟨k0, h0, rfl⟩ := Option.map_eq_some_iff.1 hk
    have := h.nil _ k0 h0 hr
    simp [Blk.rn, this, AV.rnL]
  · obtain ⟨k0, h0, rfl⟩ := Option.map_eq_some_iff.1 hk
    obtain ⟨ents, clk, hb, hl, hc⟩ := h.map _ k0 b h0 hr hz
    refine ⟨ents, clk, hb, by simpa [Blk.rn, rnL_eq] using hl, fun i m hm => ?_⟩
    obtain ⟨v, hv, hr'⟩ := hc i m hm
    refine ⟨AV.rn π v, ?_, hr'.rn hπ⟩
    simp only [Blk.rn, rnL_eq, List.getElem?_map, hv, Option.map_some, AV.rn, AV.rnL]
    try rfl
  · obtain ⟨k0, h0, rfl⟩ := Option.map_eq_some_iff.1 hk
    obtain ⟨cur, hb, hl, hs, hc⟩ := h.blk _ k0 b h0 hr hz
    refine ⟨cur, hb, fun e he => ?_, by simpa [Blk.rn, rnL_eq] using hs, fun i e j c he hc' => ?_⟩
    · simp only [Blk.rn, rnL_eq] at he
      obtain ⟨e0, h1, rfl⟩ := List.mem_map.1 he
      rw [rn_cells, List.length_map]; exact hl e0 h1
    · simp only [Blk.rn, rnL_eq, List.getElem?_map] at he
      obtain ⟨e0, h1, rfl⟩ := Option.map_eq_some_iff.1 he
      rw [rn_cells, List.getElem?_map] at hc'
      obtain ⟨c0, h2, rfl⟩ := Option.map_eq_some_iff.1 hc'
      obtain ⟨x, hx, h3, hr'⟩ := hc i e0 j c0 h1 h2
      exact ⟨x, hx, h3, hr'.rn hπ⟩
  · have := h.inj _ _ b h1 h2
    have e := congrArg π this
    rwa [hπ, hπ] at e
  · simp only [Option.map_eq_none_iff] at hs
    exact h.live _ b hr hs
end
theorem Wit.rn {S : Sp} {C : Fx} {E : Env} {σ : Store} {a : Act} {w : World} {ρ : Nat → Option Nat} {Im : Nat → Prop} {M : Str} (H : Holds S C) (h : Wit C E σ a w ρ Im M) (π : Nat → Nat) (hπ : ∀ i, π (π i) = i) (hm : ∀ i, π i ≠ i → S.old i = false ∧ S.pin i = false) :
    Wit C (fun t => AV.rn π (E t)) (fun i => (σ (π i)).map (Blk.rn π)) a w (fun i => ρ (π i)) Im M := by
  have hfree : AV.rn π (E C.N) = E C.N := AV.rn_free π _ (h.gh allB)
  refine ⟨h.inv.rn hπ, fun t y hy => (h.env t y hy).rn hπ, h.size, h.ext, fun id b hb => ?_, h.im, fun p => ?_, ?_, h.js, fun b hb => ?_, h.rd, h.nodup, h.df, fun b hb => ?_, fun id ob hp => ?_, h.j0⟩
  · rcases h.rng _ b hb with ⟨h1, h2⟩ | h1
    · have ho := H.fz _ b h1 h2
      have hid : π id = id := by
        by_cases e : π (π id) = π id
        · rwa [hπ, eq_comm] at e
        · have := (hm _ e).1; rw [ho] at this; cases this
      rw [hid] at h2
      exact .inl ⟨h1, h2⟩
    · exact .inr h1
  · show AV.namesB p (AV.rn π (E C.N)) = false
    rw [hfree]; exact h.gh p
  · show C.G (AV.rn π (E C.N)) M w
    rw [hfree]; exact h.g
  · obtain ⟨h1, h2, h3, h4⟩ := h.ms b hb
    exact ⟨h1, fun id => h2 _, h3, h4⟩
  · obtain ⟨h1, h2, h3⟩ := h.bk b hb
    exact ⟨fun id => h1 _, h2, h3⟩
  · have hpn := H.pin id ob hp
    have hid : π id = id := by
      by_cases e : π id = id
      · exact e
      · have := (hm _ e).2; rw [hpn] at this; cases this
    show ρ (π id) = ob
    rw [hid]; exact h.pin id ob hp
def swp (x y i : Nat) : Nat := if i = x then y else if i = y then x else i
@[go_sem] theorem swp_eq (x y i : Nat) : swp x y i = if i = x then y else if i = y then x else i := rfl
@[go_sem] theorem frz_agg (L p : Nat → Bool) (σ : Store) (cs : List AV) : frz L p σ (.agg cs) = if AV.namesB (notI L) (.agg cs) = false then .agg cs else res (killS p (killS L σ)) (((AV.agg cs).kill L).kill p) := rfl
section
variable (π : Nat → Nat)
@[go_sem] theorem rn_v (x : Value) : AV.rn π (.v x) = .v x := rfl
@[go_sem] theorem rn_sl (s : Nat) (es : List AV) : AV.rn π (.sl s es) = .sl s es := rfl
@[go_sem] theorem rn_pt (e : AV) (j : Nat) : AV.rn π (.pt e j) = .pt e j := rfl
@[go_sem] theorem rn_any : AV.rn π .any = .any := rfl
@[go_sem] theorem rn_own (a s i n : Nat) : AV.rn π (.own a s i n) = .own (π a) s i n := rfl
@[go_sem] theorem rn_ptr (a s i j : Nat) : AV.rn π (.ptr a s i j) = .ptr (π a) s i j := rfl
@[go_sem] theorem rn_agg (cs : List AV) : AV.rn π (.agg cs) = .agg (AV.rnL π cs) := rfl
@[go_sem] theorem rnL_nil : AV.rnL π [] = [] := rfl
@[go_sem] theorem rnL_cons (c : AV) (cs : List AV) : AV.rnL π (c :: cs) = AV.rn π c :: AV.rnL π cs := rfl
@[go_sem] theorem rn_blk (e : TypeId) (s : Nat) (es : List AV) : Blk.rn π ⟨e, s, es⟩ = ⟨e, s, AV.rnL π es⟩ := rfl
end
end Go.Vai
namespace Go.Vai
end Go.Vai
namespace Go.Vai
end Go.Vai
set_option maxRecDepth 100000
namespace Go.Proofs.YtgbcfpcjljhijaaDoor
open Go.Vai Go Go.Proofs
open Nat (reduceEqDiff reduceMul reduceAdd reduceDiv reduceLeDiff)
open Int (reduceToNat reduceNe reduceEq reduceLT reduceLE)
abbrev TF (t : Nat) (x0 : Bool) (x1 : Nat) (x2 : Option TypeId) (x3 : Option (Nat × TypeId)) (x4 : Option (List (Nat × TypeId))) (x5 : Option IntKind) (x6 : Bool) (x7 : Option Bool) (x8 : Nat) (x9 : Option Nat) (x10 : Option (List Nat)) (x11 : Bool) : Prop := tund Tryd.prog t = x0 ∧ tsz Tryd.prog t = x1 ∧ tel Tryd.prog t = x2 ∧ tarr Tryd.prog t = x3 ∧ tfld Tryd.prog t = x4 ∧ tint Tryd.prog t = x5 ∧ tstr Tryd.prog t = x6 ∧ tagg Tryd.prog t = x7 ∧ tby Tryd.prog t = x8 ∧ tkind Tryd.prog t = x9 ∧ teq Tryd.prog t = x10 ∧ tpt Tryd.prog t = x11
theorem tf {t : Nat} {x0 : Bool} {x1 : Nat} {x2 : Option TypeId} {x3 : Option (Nat × TypeId)} {x4 : Option (List (Nat × TypeId))} {x5 : Option IntKind} {x6 : Bool} {x7 : Option Bool} {x8 : Nat} {x9 : Option Nat} {x10 : Option (List Nat)} {x11 : Bool} (h : (tund Tryd.prog t, tsz Tryd.prog t, tel Tryd.prog t, tarr Tryd.prog t, tfld Tryd.prog t, tint Tryd.prog t, tstr Tryd.prog t, tagg Tryd.prog t, tby Tryd.prog t, tkind Tryd.prog t, teq Tryd.prog t, tpt Tryd.prog t) = (x0, x1, x2, x3, x4, x5, x6, x7, x8, x9, x10, x11)) : TF t x0 x1 x2 x3 x4 x5 x6 x7 x8 x9 x10 x11 := by simpa only [TF, Prod.mk.injEq] using h
@[go_sem] theorem t0 : TF 0 true 1 none none none none false (some false) 0 none none false := tf (by kernel_rfl)
@[go_sem] theorem tzA_0 : tzA Tryd.prog 0 = (some (AV.tup []) : Option AV) := by kernel_rfl
@[go_sem] theorem t1 : TF 1 true 1 none none none none false (some false) 8 none none false := tf (by kernel_rfl)
@[go_sem] theorem tzA_1 : tzA Tryd.prog 1 = (some (AV.v Value.nilFunc) : Option AV) := by kernel_rfl
@[go_sem] theorem t2 : TF 2 true 1 none none none (some .i64) false (some false) 8 (some 0) none false := tf (by kernel_rfl)
@[go_sem] theorem tzA_2 : tzA Tryd.prog 2 = (some (AV.v (Value.int IntKind.i64 (0))) : Option AV) := by kernel_rfl
@[go_sem] theorem t3 : TF 3 true 1 none none none (some .i64) false (some false) 8 (some 0) none false := tf (by kernel_rfl)
@[go_sem] theorem tzA_3 : tzA Tryd.prog 3 = (some (AV.v (Value.int IntKind.i64 (0))) : Option AV) := by kernel_rfl
@[go_sem] theorem t4 : TF 4 true 1 none none none none false (some false) 1 (some 1) none false := tf (by kernel_rfl)
@[go_sem] theorem tzA_4 : tzA Tryd.prog 4 = (some (AV.v (Value.bool false)) : Option AV) := by kernel_rfl
@[go_sem] theorem t5 : TF 5 true 1 none none none (some .u8) false (some false) 1 (some 0) none false := tf (by kernel_rfl)
@[go_sem] theorem tzA_5 : tzA Tryd.prog 5 = (some (AV.v (Value.int IntKind.u8 (0))) : Option AV) := by kernel_rfl
@[go_sem] theorem t6 : TF 6 true 1 none none none (some .u8) false (some false) 1 (some 0) none false := tf (by kernel_rfl)
@[go_sem] theorem tzA_6 : tzA Tryd.prog 6 = (some (AV.v (Value.int IntKind.u8 (0))) : Option AV) := by kernel_rfl
@[go_sem] theorem t7 : TF 7 true 4 none none (some [(0, 2), (1, 3), (2, 4), (3, 6)]) none false (some true) 24 none (some [0, 0, 1, 0]) false := tf (by kernel_rfl)
@[go_sem] theorem tzA_7 : tzA Tryd.prog 7 = (some (AV.agg [AV.v (Value.int IntKind.i64 (0)), AV.v (Value.int IntKind.i64 (0)), AV.v (Value.bool false), AV.v (Value.int IntKind.u8 (0))]) : Option AV) := by kernel_rfl
@[go_sem] theorem t8 : TF 8 true 4 none none (some [(0, 2), (1, 3), (2, 4), (3, 6)]) none false (some true) 24 none (some [0, 0, 1, 0]) false := tf (by kernel_rfl)
@[go_sem] theorem tzA_8 : tzA Tryd.prog 8 = (some (AV.agg [AV.v (Value.int IntKind.i64 (0)), AV.v (Value.int IntKind.i64 (0)), AV.v (Value.bool false), AV.v (Value.int IntKind.u8 (0))]) : Option AV) := by kernel_rfl
@[go_sem] theorem t9 : TF 9 true 1 none none none none true (some false) 16 (some 2) none false := tf (by kernel_rfl)
@[go_sem] theorem tzA_9 : tzA Tryd.prog 9 = (some (AV.v (Value.string ByteArray.empty)) : Option AV) := by kernel_rfl
@[go_sem] theorem t10 : TF 10 true 1 none none none none true (some false) 16 (some 2) none false := tf (by kernel_rfl)
@[go_sem] theorem tzA_10 : tzA Tryd.prog 10 = (some (AV.v (Value.string ByteArray.empty)) : Option AV) := by kernel_rfl
@[go_sem] theorem t11 : TF 11 true 1 none none none none true (some false) 16 (some 2) none false := tf (by kernel_rfl)
@[go_sem] theorem tzA_11 : tzA Tryd.prog 11 = (some (AV.v (Value.string ByteArray.empty)) : Option AV) := by kernel_rfl
@[go_sem] theorem t12 : TF 12 true 1 none none none (some .u64) false (some false) 8 (some 0) none false := tf (by kernel_rfl)
@[go_sem] theorem tzA_12 : tzA Tryd.prog 12 = (some (AV.v (Value.int IntKind.u64 (0))) : Option AV) := by kernel_rfl
@[go_sem] theorem t13 : TF 13 true 2 none none (some [(0, 9), (1, 12)]) none false (some true) 24 none none false := tf (by kernel_rfl)
@[go_sem] theorem tzA_13 : tzA Tryd.prog 13 = (some (AV.agg [AV.v (Value.string ByteArray.empty), AV.v (Value.int IntKind.u64 (0))]) : Option AV) := by kernel_rfl
@[go_sem] theorem t14 : TF 14 true 2 none none (some [(0, 9), (1, 12)]) none false (some true) 24 none none false := tf (by kernel_rfl)
@[go_sem] theorem tzA_14 : tzA Tryd.prog 14 = (some (AV.agg [AV.v (Value.string ByteArray.empty), AV.v (Value.int IntKind.u64 (0))]) : Option AV) := by kernel_rfl
@[go_sem] theorem t15 : TF 15 true 1 none none none none false (some false) 8 none none true := tf (by kernel_rfl)
@[go_sem] theorem tzA_15 : tzA Tryd.prog 15 = (some (AV.v (Value.pointer none)) : Option AV) := by kernel_rfl
@[go_sem] theorem t16 : TF 16 true 1 none none none none false (some false) 8 none none true := tf (by kernel_rfl)
@[go_sem] theorem tzA_16 : tzA Tryd.prog 16 = (some (AV.v (Value.pointer none)) : Option AV) := by kernel_rfl
@[go_sem] theorem t17 : TF 17 true 1 none none none none false (some false) 8 none none true := tf (by kernel_rfl)
@[go_sem] theorem tzA_17 : tzA Tryd.prog 17 = (some (AV.v (Value.pointer none)) : Option AV) := by kernel_rfl
@[go_sem] theorem t18 : TF 18 true 1 none none (some [(0, 17)]) none false (some true) 8 none none false := tf (by kernel_rfl)
@[go_sem] theorem tzA_18 : tzA Tryd.prog 18 = (some (AV.agg [AV.v (Value.pointer none)]) : Option AV) := by kernel_rfl
@[go_sem] theorem t19 : TF 19 true 1 none none (some [(0, 17)]) none false (some true) 8 none none false := tf (by kernel_rfl)
@[go_sem] theorem tzA_19 : tzA Tryd.prog 19 = (some (AV.agg [AV.v (Value.pointer none)]) : Option AV) := by kernel_rfl
@[go_sem] theorem t20 : TF 20 true 1 none none none none false (some false) 16 none none false := tf (by kernel_rfl)
@[go_sem] theorem tzA_20 : tzA Tryd.prog 20 = (some (AV.v Value.nilIface) : Option AV) := by kernel_rfl
@[go_sem] theorem t21 : TF 21 true 1 none none none (some .i32) false (some false) 4 (some 0) none false := tf (by kernel_rfl)
@[go_sem] theorem tzA_21 : tzA Tryd.prog 21 = (some (AV.v (Value.int IntKind.i32 (0))) : Option AV) := by kernel_rfl
@[go_sem] theorem t22 : TF 22 true 1 (some 68) none none none false (some false) 24 none none false := tf (by kernel_rfl)
@[go_sem] theorem tz_22 : tz Tryd.prog 22 = some (Value.slice none 0 0) := by kernel_rfl
@[go_sem] theorem tzA_22 : tzA Tryd.prog 22 = (some (AV.v (Value.slice none 0 0)) : Option AV) := by kernel_rfl
@[go_sem] theorem t23 : TF 23 true 1 none none none none false (some false) 8 none none false := tf (by kernel_rfl)
@[go_sem] theorem tzA_23 : tzA Tryd.prog 23 = (some (AV.v Value.nilFunc) : Option AV) := by kernel_rfl
@[go_sem] theorem t24 : TF 24 true 1 (some 30) none none none false (some false) 24 none none false := tf (by kernel_rfl)
@[go_sem] theorem tz_24 : tz Tryd.prog 24 = some (Value.slice none 0 0) := by kernel_rfl
@[go_sem] theorem tzA_24 : tzA Tryd.prog 24 = (some (AV.v (Value.slice none 0 0)) : Option AV) := by kernel_rfl
@[go_sem] theorem t25 : TF 25 true 2 none none (some [(0, 9), (1, 24)]) none false (some true) 40 none none false := tf (by kernel_rfl)
@[go_sem] theorem tzA_25 : tzA Tryd.prog 25 = (some (AV.agg [AV.v (Value.string ByteArray.empty), AV.v (Value.slice none 0 0)]) : Option AV) := by kernel_rfl
@[go_sem] theorem t26 : TF 26 true 2 none none (some [(0, 9), (1, 24)]) none false (some true) 40 none none false := tf (by kernel_rfl)
@[go_sem] theorem tzA_26 : tzA Tryd.prog 26 = (some (AV.agg [AV.v (Value.string ByteArray.empty), AV.v (Value.slice none 0 0)]) : Option AV) := by kernel_rfl
@[go_sem] theorem t27 : TF 27 true 1 none none none none false (some false) 8 none none false := tf (by kernel_rfl)
@[go_sem] theorem tzA_27 : tzA Tryd.prog 27 = (some (AV.v Value.nilFunc) : Option AV) := by kernel_rfl
@[go_sem] theorem t28 : TF 28 true 1 none none none none false (some false) 8 none none false := tf (by kernel_rfl)
@[go_sem] theorem tzA_28 : tzA Tryd.prog 28 = (some (AV.v Value.nilFunc) : Option AV) := by kernel_rfl
@[go_sem] theorem t29 : TF 29 true 5 none none (some [(0, 3), (1, 3), (2, 3), (3, 3), (4, 9)]) none false (some true) 48 none (some [0, 0, 0, 0, 2]) false := tf (by kernel_rfl)
@[go_sem] theorem tzA_29 : tzA Tryd.prog 29 = (some (AV.agg [AV.v (Value.int IntKind.i64 (0)), AV.v (Value.int IntKind.i64 (0)), AV.v (Value.int IntKind.i64 (0)), AV.v (Value.int IntKind.i64 (0)), AV.v (Value.string ByteArray.empty)]) : Option AV) := by kernel_rfl
@[go_sem] theorem t30 : TF 30 true 5 none none (some [(0, 3), (1, 3), (2, 3), (3, 3), (4, 9)]) none false (some true) 48 none (some [0, 0, 0, 0, 2]) false := tf (by kernel_rfl)
@[go_sem] theorem tzA_30 : tzA Tryd.prog 30 = (some (AV.agg [AV.v (Value.int IntKind.i64 (0)), AV.v (Value.int IntKind.i64 (0)), AV.v (Value.int IntKind.i64 (0)), AV.v (Value.int IntKind.i64 (0)), AV.v (Value.string ByteArray.empty)]) : Option AV) := by kernel_rfl
@[go_sem] theorem t31 : TF 31 true 1 none none none none false (some false) 8 none none false := tf (by kernel_rfl)
@[go_sem] theorem tzA_31 : tzA Tryd.prog 31 = (some (AV.v Value.nilFunc) : Option AV) := by kernel_rfl
@[go_sem] theorem t32 : TF 32 true 1 (some 51) none none none false (some false) 24 none none false := tf (by kernel_rfl)
@[go_sem] theorem tz_32 : tz Tryd.prog 32 = some (Value.slice none 0 0) := by kernel_rfl
@[go_sem] theorem tzA_32 : tzA Tryd.prog 32 = (some (AV.v (Value.slice none 0 0)) : Option AV) := by kernel_rfl
@[go_sem] theorem t33 : TF 33 true 1 (some 3) none none none false (some false) 24 none none false := tf (by kernel_rfl)
@[go_sem] theorem tz_33 : tz Tryd.prog 33 = some (Value.slice none 0 0) := by kernel_rfl
@[go_sem] theorem tzA_33 : tzA Tryd.prog 33 = (some (AV.v (Value.slice none 0 0)) : Option AV) := by kernel_rfl
@[go_sem] theorem t34 : TF 34 true 2 none none (some [(0, 33), (1, 9)]) none false (some true) 40 none none false := tf (by kernel_rfl)
@[go_sem] theorem tzA_34 : tzA Tryd.prog 34 = (some (AV.agg [AV.v (Value.slice none 0 0), AV.v (Value.string ByteArray.empty)]) : Option AV) := by kernel_rfl
@[go_sem] theorem t35 : TF 35 true 2 none none (some [(0, 33), (1, 9)]) none false (some true) 40 none none false := tf (by kernel_rfl)
@[go_sem] theorem tzA_35 : tzA Tryd.prog 35 = (some (AV.agg [AV.v (Value.slice none 0 0), AV.v (Value.string ByteArray.empty)]) : Option AV) := by kernel_rfl
@[go_sem] theorem t36 : TF 36 true 1 (some 35) none none none false (some false) 24 none none false := tf (by kernel_rfl)
@[go_sem] theorem tz_36 : tz Tryd.prog 36 = some (Value.slice none 0 0) := by kernel_rfl
@[go_sem] theorem tzA_36 : tzA Tryd.prog 36 = (some (AV.v (Value.slice none 0 0)) : Option AV) := by kernel_rfl
@[go_sem] theorem t37 : TF 37 true 1 (some 26) none none none false (some false) 24 none none false := tf (by kernel_rfl)
@[go_sem] theorem tz_37 : tz Tryd.prog 37 = some (Value.slice none 0 0) := by kernel_rfl
@[go_sem] theorem tzA_37 : tzA Tryd.prog 37 = (some (AV.v (Value.slice none 0 0)) : Option AV) := by kernel_rfl
@[go_sem] theorem t38 : TF 38 true 1 none none none (some .i64) false (some false) 8 (some 0) none false := tf (by kernel_rfl)
@[go_sem] theorem tzA_38 : tzA Tryd.prog 38 = (some (AV.v (Value.int IntKind.i64 (0))) : Option AV) := by kernel_rfl
@[go_sem] theorem t39 : TF 39 true 1 none none none none false (some false) 0 none none false := tf (by kernel_rfl)
@[go_sem] theorem tzA_39 : tzA Tryd.prog 39 = (some (AV.tup [AV.v (Value.agg { toList := [Value.slice none 0 0, Value.string ByteArray.empty] }), AV.v (Value.int IntKind.i64 (0))]) : Option AV) := by kernel_rfl
@[go_sem] theorem t40 : TF 40 true 1 none none none none false (some false) 8 none none false := tf (by kernel_rfl)
@[go_sem] theorem tzA_40 : tzA Tryd.prog 40 = (some (AV.v Value.nilFunc) : Option AV) := by kernel_rfl
@[go_sem] theorem t41 : TF 41 true 1 none none none none false (some false) 0 none none false := tf (by kernel_rfl)
@[go_sem] theorem tzA_41 : tzA Tryd.prog 41 = (some (AV.tup [AV.v (Value.slice none 0 0), AV.v (Value.int IntKind.i64 (0))]) : Option AV) := by kernel_rfl
@[go_sem] theorem t42 : TF 42 true 1 none none none none false (some false) 8 none none false := tf (by kernel_rfl)
@[go_sem] theorem tzA_42 : tzA Tryd.prog 42 = (some (AV.v Value.nilFunc) : Option AV) := by kernel_rfl
@[go_sem] theorem t43 : TF 43 true 1 (some 77) none none none false (some false) 24 none none false := tf (by kernel_rfl)
@[go_sem] theorem tz_43 : tz Tryd.prog 43 = some (Value.slice none 0 0) := by kernel_rfl
@[go_sem] theorem tzA_43 : tzA Tryd.prog 43 = (some (AV.v (Value.slice none 0 0)) : Option AV) := by kernel_rfl
@[go_sem] theorem t44 : TF 44 true 1 none none none none false (some false) 0 none none false := tf (by kernel_rfl)
@[go_sem] theorem tzA_44 : tzA Tryd.prog 44 = (some (AV.tup [AV.v (Value.slice none 0 0), AV.v (Value.int IntKind.i64 (0))]) : Option AV) := by kernel_rfl
@[go_sem] theorem t45 : TF 45 true 1 none none none none false (some false) 8 none none false := tf (by kernel_rfl)
@[go_sem] theorem tzA_45 : tzA Tryd.prog 45 = (some (AV.v Value.nilFunc) : Option AV) := by kernel_rfl
@[go_sem] theorem t46 : TF 46 true 1 none none none none false (some false) 8 none none false := tf (by kernel_rfl)
@[go_sem] theorem tzA_46 : tzA Tryd.prog 46 = (some (AV.v Value.nilFunc) : Option AV) := by kernel_rfl
@[go_sem] theorem t47 : TF 47 true 1 none none none none false (some false) 8 none none false := tf (by kernel_rfl)
@[go_sem] theorem tzA_47 : tzA Tryd.prog 47 = (some (AV.v Value.nilFunc) : Option AV) := by kernel_rfl
@[go_sem] theorem t48 : TF 48 true 1 none none none none false (some false) 8 none none false := tf (by kernel_rfl)
@[go_sem] theorem tzA_48 : tzA Tryd.prog 48 = (some (AV.v Value.nilFunc) : Option AV) := by kernel_rfl
@[go_sem] theorem t49 : TF 49 true 1 none none none none false (some false) 8 none none false := tf (by kernel_rfl)
@[go_sem] theorem tzA_49 : tzA Tryd.prog 49 = (some (AV.v Value.nilFunc) : Option AV) := by kernel_rfl
@[go_sem] theorem t50 : TF 50 true 4 none none (some [(0, 3), (1, 24), (2, 9), (3, 36)]) none false (some true) 72 none none false := tf (by kernel_rfl)
@[go_sem] theorem tzA_50 : tzA Tryd.prog 50 = (some (AV.agg [AV.v (Value.int IntKind.i64 (0)), AV.v (Value.slice none 0 0), AV.v (Value.string ByteArray.empty), AV.v (Value.slice none 0 0)]) : Option AV) := by kernel_rfl
@[go_sem] theorem t51 : TF 51 true 4 none none (some [(0, 3), (1, 24), (2, 9), (3, 36)]) none false (some true) 72 none none false := tf (by kernel_rfl)
@[go_sem] theorem tzA_51 : tzA Tryd.prog 51 = (some (AV.agg [AV.v (Value.int IntKind.i64 (0)), AV.v (Value.slice none 0 0), AV.v (Value.string ByteArray.empty), AV.v (Value.slice none 0 0)]) : Option AV) := by kernel_rfl
@[go_sem] theorem t52 : TF 52 true 1 none none none none false (some false) 0 none none false := tf (by kernel_rfl)
@[go_sem] theorem tzA_52 : tzA Tryd.prog 52 = (some (AV.tup [AV.v (Value.agg { toList := [Value.int IntKind.i64 (0), Value.slice none 0 0, Value.string ByteArray.empty, Value.slice none 0 0] }), AV.v (Value.int IntKind.i64 (0))]) : Option AV) := by kernel_rfl
@[go_sem] theorem t53 : TF 53 true 1 none none none none false (some false) 8 none none false := tf (by kernel_rfl)
@[go_sem] theorem tzA_53 : tzA Tryd.prog 53 = (some (AV.v Value.nilFunc) : Option AV) := by kernel_rfl
@[go_sem] theorem t54 : TF 54 true 1 none none none none false (some false) 8 none none false := tf (by kernel_rfl)
@[go_sem] theorem tzA_54 : tzA Tryd.prog 54 = (some (AV.v Value.nilFunc) : Option AV) := by kernel_rfl
@[go_sem] theorem t55 : TF 55 true 1 none none none none false (some false) 0 none none false := tf (by kernel_rfl)
@[go_sem] theorem tzA_55 : tzA Tryd.prog 55 = (some (AV.tup [AV.v (Value.agg { toList := [Value.int IntKind.i64 (0), Value.slice none 0 0, Value.string ByteArray.empty, Value.slice none 0 0] }), AV.v (Value.bool false)]) : Option AV) := by kernel_rfl
@[go_sem] theorem t56 : TF 56 true 1 none none none none false (some false) 8 none none false := tf (by kernel_rfl)
@[go_sem] theorem tzA_56 : tzA Tryd.prog 56 = (some (AV.v Value.nilFunc) : Option AV) := by kernel_rfl
@[go_sem] theorem t57 : TF 57 true 1 none none none none false (some false) 8 none none false := tf (by kernel_rfl)
@[go_sem] theorem tzA_57 : tzA Tryd.prog 57 = (some (AV.v Value.nilFunc) : Option AV) := by kernel_rfl
@[go_sem] theorem t58 : TF 58 true 1 none none none none false (some false) 8 none none false := tf (by kernel_rfl)
@[go_sem] theorem tzA_58 : tzA Tryd.prog 58 = (some (AV.v Value.nilFunc) : Option AV) := by kernel_rfl
@[go_sem] theorem t59 : TF 59 true 1 none none none none false (some false) 8 none none false := tf (by kernel_rfl)
@[go_sem] theorem tzA_59 : tzA Tryd.prog 59 = (some (AV.v Value.nilFunc) : Option AV) := by kernel_rfl
@[go_sem] theorem t60 : TF 60 true 1 none none none none false (some false) 8 none none false := tf (by kernel_rfl)
@[go_sem] theorem tzA_60 : tzA Tryd.prog 60 = (some (AV.v Value.nilFunc) : Option AV) := by kernel_rfl
@[go_sem] theorem t61 : TF 61 true 1 none none none none false (some false) 8 none none false := tf (by kernel_rfl)
@[go_sem] theorem tzA_61 : tzA Tryd.prog 61 = (some (AV.v Value.nilFunc) : Option AV) := by kernel_rfl
@[go_sem] theorem t62 : TF 62 true 1 (some 9) none none none false (some false) 24 none none false := tf (by kernel_rfl)
@[go_sem] theorem tz_62 : tz Tryd.prog 62 = some (Value.slice none 0 0) := by kernel_rfl
@[go_sem] theorem tzA_62 : tzA Tryd.prog 62 = (some (AV.v (Value.slice none 0 0)) : Option AV) := by kernel_rfl
@[go_sem] theorem t63 : TF 63 true 1 none none none none false (some false) 8 none none false := tf (by kernel_rfl)
@[go_sem] theorem tzA_63 : tzA Tryd.prog 63 = (some (AV.v Value.nilFunc) : Option AV) := by kernel_rfl
@[go_sem] theorem t64 : TF 64 true 1 none none none none false (some false) 8 none none false := tf (by kernel_rfl)
@[go_sem] theorem tzA_64 : tzA Tryd.prog 64 = (some (AV.v Value.nilFunc) : Option AV) := by kernel_rfl
@[go_sem] theorem t65 : TF 65 true 1 none none none none false (some false) 8 none none false := tf (by kernel_rfl)
@[go_sem] theorem tzA_65 : tzA Tryd.prog 65 = (some (AV.v Value.nilFunc) : Option AV) := by kernel_rfl
@[go_sem] theorem t66 : TF 66 true 1 (some 5) none none none false (some false) 24 none none false := tf (by kernel_rfl)
@[go_sem] theorem tz_66 : tz Tryd.prog 66 = some (Value.slice none 0 0) := by kernel_rfl
@[go_sem] theorem tzA_66 : tzA Tryd.prog 66 = (some (AV.v (Value.slice none 0 0)) : Option AV) := by kernel_rfl
@[go_sem] theorem t67 : TF 67 true 1 none none none none false (some false) 8 none none false := tf (by kernel_rfl)
@[go_sem] theorem tzA_67 : tzA Tryd.prog 67 = (some (AV.v Value.nilFunc) : Option AV) := by kernel_rfl
@[go_sem] theorem t68 : TF 68 true 5 none (some (5, 3)) none none false (some true) 40 none none false := tf (by kernel_rfl)
@[go_sem] theorem tzA_68 : tzA Tryd.prog 68 = (some (AV.agg [AV.v (Value.int IntKind.i64 (0)), AV.v (Value.int IntKind.i64 (0)), AV.v (Value.int IntKind.i64 (0)), AV.v (Value.int IntKind.i64 (0)), AV.v (Value.int IntKind.i64 (0))]) : Option AV) := by kernel_rfl
@[go_sem] theorem t69 : TF 69 true 1 none none none none false (some false) 8 none none false := tf (by kernel_rfl)
@[go_sem] theorem tzA_69 : tzA Tryd.prog 69 = (some (AV.v Value.nilFunc) : Option AV) := by kernel_rfl
@[go_sem] theorem t70 : TF 70 true 1 none none none none false (some false) 8 none none false := tf (by kernel_rfl)
@[go_sem] theorem tzA_70 : tzA Tryd.prog 70 = (some (AV.v Value.nilFunc) : Option AV) := by kernel_rfl
@[go_sem] theorem t71 : TF 71 true 1 none none none none false (some false) 8 none none false := tf (by kernel_rfl)
@[go_sem] theorem tzA_71 : tzA Tryd.prog 71 = (some (AV.v Value.nilFunc) : Option AV) := by kernel_rfl
@[go_sem] theorem t72 : TF 72 true 1 none none none none false (some false) 8 none none false := tf (by kernel_rfl)
@[go_sem] theorem tzA_72 : tzA Tryd.prog 72 = (some (AV.v Value.nilFunc) : Option AV) := by kernel_rfl
@[go_sem] theorem t73 : TF 73 true 1 none none none none false (some false) 8 none none false := tf (by kernel_rfl)
@[go_sem] theorem tzA_73 : tzA Tryd.prog 73 = (some (AV.v Value.nilFunc) : Option AV) := by kernel_rfl
@[go_sem] theorem t74 : TF 74 true 1 none none none none false (some false) 8 none none false := tf (by kernel_rfl)
@[go_sem] theorem tzA_74 : tzA Tryd.prog 74 = (some (AV.v Value.nilFunc) : Option AV) := by kernel_rfl
@[go_sem] theorem t75 : TF 75 true 1 none none none none false (some false) 8 none none false := tf (by kernel_rfl)
@[go_sem] theorem tzA_75 : tzA Tryd.prog 75 = (some (AV.v Value.nilFunc) : Option AV) := by kernel_rfl
@[go_sem] theorem t76 : TF 76 true 3 none none (some [(0, 3), (1, 3), (2, 3)]) none false (some true) 24 none (some [0, 0, 0]) false := tf (by kernel_rfl)
@[go_sem] theorem tzA_76 : tzA Tryd.prog 76 = (some (AV.agg [AV.v (Value.int IntKind.i64 (0)), AV.v (Value.int IntKind.i64 (0)), AV.v (Value.int IntKind.i64 (0))]) : Option AV) := by kernel_rfl
@[go_sem] theorem t77 : TF 77 true 3 none none (some [(0, 3), (1, 3), (2, 3)]) none false (some true) 24 none (some [0, 0, 0]) false := tf (by kernel_rfl)
@[go_sem] theorem tzA_77 : tzA Tryd.prog 77 = (some (AV.agg [AV.v (Value.int IntKind.i64 (0)), AV.v (Value.int IntKind.i64 (0)), AV.v (Value.int IntKind.i64 (0))]) : Option AV) := by kernel_rfl
@[go_sem] theorem t78 : TF 78 true 1 none none none none false (some false) 8 none none false := tf (by kernel_rfl)
@[go_sem] theorem tzA_78 : tzA Tryd.prog 78 = (some (AV.v Value.nilFunc) : Option AV) := by kernel_rfl
@[go_sem] theorem t79 : TF 79 true 8 none (some (8, 3)) none none false (some true) 64 none none false := tf (by kernel_rfl)
@[go_sem] theorem tzA_79 : tzA Tryd.prog 79 = (some (AV.agg [AV.v (Value.int IntKind.i64 (0)), AV.v (Value.int IntKind.i64 (0)), AV.v (Value.int IntKind.i64 (0)), AV.v (Value.int IntKind.i64 (0)), AV.v (Value.int IntKind.i64 (0)), AV.v (Value.int IntKind.i64 (0)), AV.v (Value.int IntKind.i64 (0)), AV.v (Value.int IntKind.i64 (0))]) : Option AV) := by kernel_rfl
@[go_sem] theorem t80 : TF 80 true 9 none none (some [(0, 79), (8, 9)]) none false (some true) 80 none none false := tf (by kernel_rfl)
@[go_sem] theorem tzA_80 : tzA Tryd.prog 80 = (some (AV.agg [AV.v (Value.int IntKind.i64 (0)), AV.v (Value.int IntKind.i64 (0)), AV.v (Value.int IntKind.i64 (0)), AV.v (Value.int IntKind.i64 (0)), AV.v (Value.int IntKind.i64 (0)), AV.v (Value.int IntKind.i64 (0)), AV.v (Value.int IntKind.i64 (0)), AV.v (Value.int IntKind.i64 (0)), AV.v (Value.string ByteArray.empty)]) : Option AV) := by kernel_rfl
@[go_sem] theorem t81 : TF 81 true 9 none none (some [(0, 79), (8, 9)]) none false (some true) 80 none none false := tf (by kernel_rfl)
@[go_sem] theorem tzA_81 : tzA Tryd.prog 81 = (some (AV.agg [AV.v (Value.int IntKind.i64 (0)), AV.v (Value.int IntKind.i64 (0)), AV.v (Value.int IntKind.i64 (0)), AV.v (Value.int IntKind.i64 (0)), AV.v (Value.int IntKind.i64 (0)), AV.v (Value.int IntKind.i64 (0)), AV.v (Value.int IntKind.i64 (0)), AV.v (Value.int IntKind.i64 (0)), AV.v (Value.string ByteArray.empty)]) : Option AV) := by kernel_rfl
@[go_sem] theorem t82 : TF 82 true 1 none none none none false (some false) 8 none none false := tf (by kernel_rfl)
@[go_sem] theorem tzA_82 : tzA Tryd.prog 82 = (some (AV.v Value.nilFunc) : Option AV) := by kernel_rfl
@[go_sem] theorem t83 : TF 83 true 1 none none none none false (some false) 8 none none false := tf (by kernel_rfl)
@[go_sem] theorem tzA_83 : tzA Tryd.prog 83 = (some (AV.v Value.nilFunc) : Option AV) := by kernel_rfl
@[go_sem] theorem t84 : TF 84 true 1 none none none none false (some false) 8 none none false := tf (by kernel_rfl)
@[go_sem] theorem tzA_84 : tzA Tryd.prog 84 = (some (AV.v Value.nilFunc) : Option AV) := by kernel_rfl
@[go_sem] theorem t85 : TF 85 true 1 (some 81) none none none false (some false) 24 none none false := tf (by kernel_rfl)
@[go_sem] theorem tz_85 : tz Tryd.prog 85 = some (Value.slice none 0 0) := by kernel_rfl
@[go_sem] theorem tzA_85 : tzA Tryd.prog 85 = (some (AV.v (Value.slice none 0 0)) : Option AV) := by kernel_rfl
@[go_sem] theorem t86 : TF 86 true 1 none none none none false (some false) 8 none none false := tf (by kernel_rfl)
@[go_sem] theorem tzA_86 : tzA Tryd.prog 86 = (some (AV.v Value.nilFunc) : Option AV) := by kernel_rfl
@[go_sem] theorem t87 : TF 87 true 1 (some 36) none none none false (some false) 24 none none false := tf (by kernel_rfl)
@[go_sem] theorem tz_87 : tz Tryd.prog 87 = some (Value.slice none 0 0) := by kernel_rfl
@[go_sem] theorem tzA_87 : tzA Tryd.prog 87 = (some (AV.v (Value.slice none 0 0)) : Option AV) := by kernel_rfl
@[go_sem] theorem t88 : TF 88 true 1 none none none none false (some false) 8 none none false := tf (by kernel_rfl)
@[go_sem] theorem tzA_88 : tzA Tryd.prog 88 = (some (AV.v Value.nilFunc) : Option AV) := by kernel_rfl
@[go_sem] theorem t89 : TF 89 true 1 none none none none false (some false) 8 none none false := tf (by kernel_rfl)
@[go_sem] theorem tzA_89 : tzA Tryd.prog 89 = (some (AV.v Value.nilFunc) : Option AV) := by kernel_rfl
@[go_sem] theorem t90 : TF 90 true 1 none none none none false (some false) 8 none none false := tf (by kernel_rfl)
@[go_sem] theorem tzA_90 : tzA Tryd.prog 90 = (some (AV.v Value.nilFunc) : Option AV) := by kernel_rfl
@[go_sem] theorem t91 : TF 91 true 1 none none none none false (some false) 8 none none false := tf (by kernel_rfl)
@[go_sem] theorem tzA_91 : tzA Tryd.prog 91 = (some (AV.v Value.nilFunc) : Option AV) := by kernel_rfl
@[go_sem] theorem t92 : TF 92 true 1 none none none none false (some false) 8 none none false := tf (by kernel_rfl)
@[go_sem] theorem tzA_92 : tzA Tryd.prog 92 = (some (AV.v Value.nilFunc) : Option AV) := by kernel_rfl
@[go_sem] theorem t93 : TF 93 true 1 none none none none false (some false) 8 none none false := tf (by kernel_rfl)
@[go_sem] theorem tzA_93 : tzA Tryd.prog 93 = (some (AV.v Value.nilFunc) : Option AV) := by kernel_rfl
@[go_sem] theorem t94 : TF 94 true 1 none none none none false (some false) 8 none none false := tf (by kernel_rfl)
@[go_sem] theorem tzA_94 : tzA Tryd.prog 94 = (some (AV.v Value.nilFunc) : Option AV) := by kernel_rfl
@[go_sem] theorem t95 : TF 95 true 1 none none none none false (some false) 8 none none false := tf (by kernel_rfl)
@[go_sem] theorem tzA_95 : tzA Tryd.prog 95 = (some (AV.v Value.nilFunc) : Option AV) := by kernel_rfl
@[go_sem] theorem t96 : TF 96 true 1 none none none none false (some false) 8 none none false := tf (by kernel_rfl)
@[go_sem] theorem tzA_96 : tzA Tryd.prog 96 = (some (AV.v Value.nilFunc) : Option AV) := by kernel_rfl
@[go_sem] theorem t97 : TF 97 true 1 none none none none false (some false) 8 none none false := tf (by kernel_rfl)
@[go_sem] theorem tzA_97 : tzA Tryd.prog 97 = (some (AV.v Value.nilFunc) : Option AV) := by kernel_rfl
@[go_sem] theorem t98 : TF 98 true 1 none none none none false (some false) 8 none none false := tf (by kernel_rfl)
@[go_sem] theorem tzA_98 : tzA Tryd.prog 98 = (some (AV.v Value.nilFunc) : Option AV) := by kernel_rfl
@[go_sem] theorem t99 : TF 99 true 1 none none none none false (some false) 0 none none false := tf (by kernel_rfl)
@[go_sem] theorem tzA_99 : tzA Tryd.prog 99 = (some (AV.tup [AV.v (Value.agg { toList := [Value.int IntKind.i64 (0), Value.int IntKind.i64 (0), Value.int IntKind.i64 (0), Value.int IntKind.i64 (0), Value.int IntKind.i64 (0), Value.int IntKind.i64 (0), Value.int IntKind.i64 (0), Value.int IntKind.i64 (0), Value.string ByteArray.empty] }), AV.v (Value.bool false)]) : Option AV) := by kernel_rfl
@[go_sem] theorem t100 : TF 100 true 1 none none none none false (some false) 8 none none false := tf (by kernel_rfl)
@[go_sem] theorem tzA_100 : tzA Tryd.prog 100 = (some (AV.v Value.nilFunc) : Option AV) := by kernel_rfl
@[go_sem] theorem t101 : TF 101 true 1 none none none none false (some false) 8 none none false := tf (by kernel_rfl)
@[go_sem] theorem tzA_101 : tzA Tryd.prog 101 = (some (AV.v Value.nilFunc) : Option AV) := by kernel_rfl
@[go_sem] theorem t102 : TF 102 true 1 none none none none false (some false) 8 none none false := tf (by kernel_rfl)
@[go_sem] theorem tzA_102 : tzA Tryd.prog 102 = (some (AV.v Value.nilFunc) : Option AV) := by kernel_rfl
@[go_sem] theorem t103 : TF 103 true 1 none none none none false (some false) 0 none none false := tf (by kernel_rfl)
@[go_sem] theorem tzA_103 : tzA Tryd.prog 103 = (some (AV.tup [AV.v (Value.agg { toList := [Value.slice none 0 0, Value.string ByteArray.empty] }), AV.v (Value.slice none 0 0)]) : Option AV) := by kernel_rfl
@[go_sem] theorem t104 : TF 104 true 1 none none none none false (some false) 8 none none false := tf (by kernel_rfl)
@[go_sem] theorem tzA_104 : tzA Tryd.prog 104 = (some (AV.v Value.nilFunc) : Option AV) := by kernel_rfl
@[go_sem] theorem t105 : TF 105 true 1 none none none (some .u32) false (some false) 4 (some 0) none false := tf (by kernel_rfl)
@[go_sem] theorem tzA_105 : tzA Tryd.prog 105 = (some (AV.v (Value.int IntKind.u32 (0))) : Option AV) := by kernel_rfl
@[go_sem] theorem t106 : TF 106 true 1 (some 105) none none none false (some false) 24 none none false := tf (by kernel_rfl)
@[go_sem] theorem tz_106 : tz Tryd.prog 106 = some (Value.slice none 0 0) := by kernel_rfl
@[go_sem] theorem tzA_106 : tzA Tryd.prog 106 = (some (AV.v (Value.slice none 0 0)) : Option AV) := by kernel_rfl
@[go_sem] theorem t107 : TF 107 true 1 none none none none false (some false) 8 none none false := tf (by kernel_rfl)
@[go_sem] theorem tzA_107 : tzA Tryd.prog 107 = (some (AV.v Value.nilFunc) : Option AV) := by kernel_rfl
@[go_sem] theorem t108 : TF 108 true 1 none none none none false (some false) 8 none none false := tf (by kernel_rfl)
@[go_sem] theorem tzA_108 : tzA Tryd.prog 108 = (some (AV.v Value.nilFunc) : Option AV) := by kernel_rfl
@[go_sem] theorem t109 : TF 109 true 1 none none none (some .u64) false (some false) 8 (some 0) none false := tf (by kernel_rfl)
@[go_sem] theorem tzA_109 : tzA Tryd.prog 109 = (some (AV.v (Value.int IntKind.u64 (0))) : Option AV) := by kernel_rfl
@[go_sem] theorem t110 : TF 110 true 1 none none none none false (some false) 8 none none false := tf (by kernel_rfl)
@[go_sem] theorem tzA_110 : tzA Tryd.prog 110 = (some (AV.v Value.nilFunc) : Option AV) := by kernel_rfl
@[go_sem] theorem t111 : TF 111 true 1 none none none none false (some false) 8 none none false := tf (by kernel_rfl)
@[go_sem] theorem tzA_111 : tzA Tryd.prog 111 = (some (AV.v Value.nilFunc) : Option AV) := by kernel_rfl
@[go_sem] theorem t112 : TF 112 true 1 none none none none false (some false) 8 none none false := tf (by kernel_rfl)
@[go_sem] theorem tzA_112 : tzA Tryd.prog 112 = (some (AV.v Value.nilFunc) : Option AV) := by kernel_rfl
@[go_sem] theorem t113 : TF 113 true 1 none none none none false (some false) 8 none none false := tf (by kernel_rfl)
@[go_sem] theorem tzA_113 : tzA Tryd.prog 113 = (some (AV.v Value.nilFunc) : Option AV) := by kernel_rfl
@[go_sem] theorem t114 : TF 114 true 1 none none none none false (some false) 8 none none false := tf (by kernel_rfl)
@[go_sem] theorem tzA_114 : tzA Tryd.prog 114 = (some (AV.v Value.nilFunc) : Option AV) := by kernel_rfl
@[go_sem] theorem t115 : TF 115 true 1 none none none none false (some false) 8 none none false := tf (by kernel_rfl)
@[go_sem] theorem tzA_115 : tzA Tryd.prog 115 = (some (AV.v Value.nilFunc) : Option AV) := by kernel_rfl
@[go_sem] theorem t116 : TF 116 true 1 none none none none false (some false) 8 none none false := tf (by kernel_rfl)
@[go_sem] theorem tzA_116 : tzA Tryd.prog 116 = (some (AV.v Value.nilFunc) : Option AV) := by kernel_rfl
@[go_sem] theorem t117 : TF 117 true 1 none none none none false (some false) 8 none none false := tf (by kernel_rfl)
@[go_sem] theorem tzA_117 : tzA Tryd.prog 117 = (some (AV.v Value.nilFunc) : Option AV) := by kernel_rfl
@[go_sem] theorem t118 : TF 118 true 1 none none none none false (some false) 8 none none false := tf (by kernel_rfl)
@[go_sem] theorem tzA_118 : tzA Tryd.prog 118 = (some (AV.v Value.nilFunc) : Option AV) := by kernel_rfl
@[go_sem] theorem t119 : TF 119 true 1 none none none none false (some false) 8 none none false := tf (by kernel_rfl)
@[go_sem] theorem tzA_119 : tzA Tryd.prog 119 = (some (AV.v Value.nilFunc) : Option AV) := by kernel_rfl
@[go_sem] theorem t120 : TF 120 true 1 none none none none false (some false) 8 none none false := tf (by kernel_rfl)
@[go_sem] theorem tzA_120 : tzA Tryd.prog 120 = (some (AV.v Value.nilFunc) : Option AV) := by kernel_rfl
@[go_sem] theorem t121 : TF 121 true 1 none none none none false (some false) 0 none none false := tf (by kernel_rfl)
@[go_sem] theorem tzA_121 : tzA Tryd.prog 121 = (some (AV.tup [AV.v (Value.string ByteArray.empty), AV.v (Value.int IntKind.i64 (0))]) : Option AV) := by kernel_rfl
@[go_sem] theorem t122 : TF 122 true 1 none none none none false (some false) 8 none none false := tf (by kernel_rfl)
@[go_sem] theorem tzA_122 : tzA Tryd.prog 122 = (some (AV.v Value.nilFunc) : Option AV) := by kernel_rfl
@[go_sem] theorem t123 : TF 123 true 1 none none none none false (some false) 8 none none false := tf (by kernel_rfl)
@[go_sem] theorem tzA_123 : tzA Tryd.prog 123 = (some (AV.v Value.nilFunc) : Option AV) := by kernel_rfl
@[go_sem] theorem t124 : TF 124 true 1 none none none none false (some false) 8 none none false := tf (by kernel_rfl)
@[go_sem] theorem tzA_124 : tzA Tryd.prog 124 = (some (AV.v Value.nilFunc) : Option AV) := by kernel_rfl
@[go_sem] theorem t125 : TF 125 true 1 none none none none false (some false) 8 none none false := tf (by kernel_rfl)
@[go_sem] theorem tzA_125 : tzA Tryd.prog 125 = (some (AV.v Value.nilFunc) : Option AV) := by kernel_rfl
@[go_sem] theorem t126 : TF 126 true 1 none none none none false (some false) 8 none none true := tf (by kernel_rfl)
@[go_sem] theorem tzA_126 : tzA Tryd.prog 126 = (some (AV.v (Value.pointer none)) : Option AV) := by kernel_rfl
@[go_sem] theorem t127 : TF 127 true 2 none none (some [(0, 126), (1, 66)]) none false (some true) 32 none none false := tf (by kernel_rfl)
@[go_sem] theorem tzA_127 : tzA Tryd.prog 127 = (some (AV.agg [AV.v (Value.pointer none), AV.v (Value.slice none 0 0)]) : Option AV) := by kernel_rfl
@[go_sem] theorem t128 : TF 128 true 2 none none (some [(0, 126), (1, 66)]) none false (some true) 32 none none false := tf (by kernel_rfl)
@[go_sem] theorem tzA_128 : tzA Tryd.prog 128 = (some (AV.agg [AV.v (Value.pointer none), AV.v (Value.slice none 0 0)]) : Option AV) := by kernel_rfl
@[go_sem] theorem t129 : TF 129 true 2 none none (some [(0, 128)]) none false (some true) 32 none none false := tf (by kernel_rfl)
@[go_sem] theorem tzA_129 : tzA Tryd.prog 129 = (some (AV.agg [AV.v (Value.pointer none), AV.v (Value.slice none 0 0)]) : Option AV) := by kernel_rfl
@[go_sem] theorem t130 : TF 130 true 2 none none (some [(0, 128)]) none false (some true) 32 none none false := tf (by kernel_rfl)
@[go_sem] theorem tzA_130 : tzA Tryd.prog 130 = (some (AV.agg [AV.v (Value.pointer none), AV.v (Value.slice none 0 0)]) : Option AV) := by kernel_rfl
@[go_sem] theorem t131 : TF 131 true 1 none none none none false (some false) 8 none none false := tf (by kernel_rfl)
@[go_sem] theorem tzA_131 : tzA Tryd.prog 131 = (some (AV.v Value.nilFunc) : Option AV) := by kernel_rfl
@[go_sem] theorem t132 : TF 132 true 1 none none none none false (some false) 8 none none false := tf (by kernel_rfl)
@[go_sem] theorem tzA_132 : tzA Tryd.prog 132 = (some (AV.v Value.nilFunc) : Option AV) := by kernel_rfl
@[go_sem] theorem t133 : TF 133 true 1 none none none none false (some false) 16 none none false := tf (by kernel_rfl)
@[go_sem] theorem tzA_133 : tzA Tryd.prog 133 = (some (AV.v Value.nilIface) : Option AV) := by kernel_rfl
@[go_sem] theorem t134 : TF 134 true 1 none none none none false (some false) 16 none none false := tf (by kernel_rfl)
@[go_sem] theorem tzA_134 : tzA Tryd.prog 134 = (some (AV.v Value.nilIface) : Option AV) := by kernel_rfl
@[go_sem] theorem t135 : TF 135 true 1 none none none none false (some false) 0 none none false := tf (by kernel_rfl)
@[go_sem] theorem tzA_135 : tzA Tryd.prog 135 = (some (AV.tup [AV.v (Value.int IntKind.i64 (0)), AV.v Value.nilIface]) : Option AV) := by kernel_rfl
@[go_sem] theorem t136 : TF 136 true 1 none none none none false (some false) 8 none none false := tf (by kernel_rfl)
@[go_sem] theorem tzA_136 : tzA Tryd.prog 136 = (some (AV.v Value.nilFunc) : Option AV) := by kernel_rfl
@[go_sem] theorem t137 : TF 137 true 1 none none none none false (some false) 8 none none false := tf (by kernel_rfl)
@[go_sem] theorem tzA_137 : tzA Tryd.prog 137 = (some (AV.v Value.nilFunc) : Option AV) := by kernel_rfl
@[go_sem] theorem t138 : TF 138 true 1 none none none none false (some false) 8 none none false := tf (by kernel_rfl)
@[go_sem] theorem tzA_138 : tzA Tryd.prog 138 = (some (AV.v Value.nilFunc) : Option AV) := by kernel_rfl
@[go_sem] theorem t139 : TF 139 true 1 none none none none false (some false) 8 none none false := tf (by kernel_rfl)
@[go_sem] theorem tzA_139 : tzA Tryd.prog 139 = (some (AV.v Value.nilFunc) : Option AV) := by kernel_rfl
@[go_sem] theorem t140 : TF 140 true 1 none none none none false (some false) 8 none none false := tf (by kernel_rfl)
@[go_sem] theorem tzA_140 : tzA Tryd.prog 140 = (some (AV.v Value.nilFunc) : Option AV) := by kernel_rfl
@[go_sem] theorem t141 : TF 141 true 1 none none none none false (some false) 8 none none false := tf (by kernel_rfl)
@[go_sem] theorem tzA_141 : tzA Tryd.prog 141 = (some (AV.v Value.nilFunc) : Option AV) := by kernel_rfl
@[go_sem] theorem t142 : TF 142 true 256 none (some (256, 3)) none none false (some true) 2048 none none false := tf (by kernel_rfl)
@[go_sem] theorem t143 : TF 143 true 1 none none none none false (some false) 8 none none false := tf (by kernel_rfl)
@[go_sem] theorem tzA_143 : tzA Tryd.prog 143 = (some (AV.v Value.nilFunc) : Option AV) := by kernel_rfl
@[go_sem] theorem t144 : TF 144 true 1 none none none none false (some false) 8 none none true := tf (by kernel_rfl)
@[go_sem] theorem tzA_144 : tzA Tryd.prog 144 = (some (AV.v (Value.pointer none)) : Option AV) := by kernel_rfl
@[go_sem] theorem t145 : TF 145 true 1 none none none none false (some false) 8 none none false := tf (by kernel_rfl)
@[go_sem] theorem tzA_145 : tzA Tryd.prog 145 = (some (AV.v (Value.map none)) : Option AV) := by kernel_rfl
@[go_sem] theorem t146 : TF 146 true 1 none none none none false (some false) 8 none none false := tf (by kernel_rfl)
@[go_sem] theorem tzA_146 : tzA Tryd.prog 146 = (some (AV.v Value.nilFunc) : Option AV) := by kernel_rfl
@[go_sem] theorem t147 : TF 147 true 1 none none none none false (some false) 8 none none false := tf (by kernel_rfl)
@[go_sem] theorem tzA_147 : tzA Tryd.prog 147 = (some (AV.v Value.nilFunc) : Option AV) := by kernel_rfl
@[go_sem] theorem t148 : TF 148 true 1 none none none none false (some false) 8 none none false := tf (by kernel_rfl)
@[go_sem] theorem tzA_148 : tzA Tryd.prog 148 = (some (AV.v Value.nilFunc) : Option AV) := by kernel_rfl
@[go_sem] theorem t149 : TF 149 true 1 none none none none false (some false) 8 none none false := tf (by kernel_rfl)
@[go_sem] theorem tzA_149 : tzA Tryd.prog 149 = (some (AV.v Value.nilFunc) : Option AV) := by kernel_rfl
@[go_sem] theorem t150 : TF 150 true 1 none none none none false (some false) 8 none none false := tf (by kernel_rfl)
@[go_sem] theorem tzA_150 : tzA Tryd.prog 150 = (some (AV.v Value.nilFunc) : Option AV) := by kernel_rfl
@[go_sem] theorem t151 : TF 151 true 1 none none none none false (some false) 8 none none false := tf (by kernel_rfl)
@[go_sem] theorem tzA_151 : tzA Tryd.prog 151 = (some (AV.v Value.nilFunc) : Option AV) := by kernel_rfl
@[go_sem] theorem t152 : TF 152 true 1 none none none (some .u64) false (some false) 8 (some 0) none false := tf (by kernel_rfl)
@[go_sem] theorem tzA_152 : tzA Tryd.prog 152 = (some (AV.v (Value.int IntKind.u64 (0))) : Option AV) := by kernel_rfl
@[go_sem] theorem t153 : TF 153 true 1 none none none none false (some false) 8 none none false := tf (by kernel_rfl)
@[go_sem] theorem tzA_153 : tzA Tryd.prog 153 = (some (AV.v Value.nilFunc) : Option AV) := by kernel_rfl
@[go_sem] theorem t154 : TF 154 true 1 none none none none false (some false) 8 none none false := tf (by kernel_rfl)
@[go_sem] theorem tzA_154 : tzA Tryd.prog 154 = (some (AV.v Value.nilFunc) : Option AV) := by kernel_rfl
@[go_sem] theorem t155 : TF 155 true 1 none none none none false (some false) 8 none none true := tf (by kernel_rfl)
@[go_sem] theorem tzA_155 : tzA Tryd.prog 155 = (some (AV.v (Value.pointer none)) : Option AV) := by kernel_rfl
@[go_sem] theorem t156 : TF 156 true 1 none none none none false (some false) 8 none none true := tf (by kernel_rfl)
@[go_sem] theorem tzA_156 : tzA Tryd.prog 156 = (some (AV.v (Value.pointer none)) : Option AV) := by kernel_rfl
@[go_sem] theorem t157 : TF 157 true 1 none none none none false (some false) 0 none none false := tf (by kernel_rfl)
@[go_sem] theorem tzA_157 : tzA Tryd.prog 157 = (some (AV.tup [AV.v (Value.slice none 0 0), AV.v (Value.bool false)]) : Option AV) := by kernel_rfl
@[go_sem] theorem t158 : TF 158 true 1 none none none none false (some false) 8 none none false := tf (by kernel_rfl)
@[go_sem] theorem tzA_158 : tzA Tryd.prog 158 = (some (AV.v Value.nilFunc) : Option AV) := by kernel_rfl
@[go_sem] theorem t159 : TF 159 true 1 none none none none false (some false) 8 none none false := tf (by kernel_rfl)
@[go_sem] theorem tzA_159 : tzA Tryd.prog 159 = (some (AV.v Value.nilFunc) : Option AV) := by kernel_rfl
@[go_sem] theorem t160 : TF 160 true 1 none none none none false (some false) 8 none none false := tf (by kernel_rfl)
@[go_sem] theorem tzA_160 : tzA Tryd.prog 160 = (some (AV.v Value.nilFunc) : Option AV) := by kernel_rfl
@[go_sem] theorem t161 : TF 161 true 1 none none none none false (some false) 8 none none false := tf (by kernel_rfl)
@[go_sem] theorem tzA_161 : tzA Tryd.prog 161 = (some (AV.v Value.nilFunc) : Option AV) := by kernel_rfl
@[go_sem] theorem t162 : TF 162 true 1 none none none none false (some false) 8 none none false := tf (by kernel_rfl)
@[go_sem] theorem tzA_162 : tzA Tryd.prog 162 = (some (AV.v Value.nilFunc) : Option AV) := by kernel_rfl
@[go_sem] theorem t163 : TF 163 true 1 none none none none false (some false) 8 none none false := tf (by kernel_rfl)
@[go_sem] theorem tzA_163 : tzA Tryd.prog 163 = (some (AV.v Value.nilFunc) : Option AV) := by kernel_rfl
@[go_sem] theorem t164 : TF 164 true 1 none none none none false (some false) 8 none none false := tf (by kernel_rfl)
@[go_sem] theorem tzA_164 : tzA Tryd.prog 164 = (some (AV.v Value.nilFunc) : Option AV) := by kernel_rfl
@[go_sem] theorem t165 : TF 165 true 1 none none none none false (some false) 8 none none true := tf (by kernel_rfl)
@[go_sem] theorem tzA_165 : tzA Tryd.prog 165 = (some (AV.v (Value.pointer none)) : Option AV) := by kernel_rfl
@[go_sem] theorem t166 : TF 166 true 1 none none none none false (some false) 8 none none false := tf (by kernel_rfl)
@[go_sem] theorem tzA_166 : tzA Tryd.prog 166 = (some (AV.v Value.nilFunc) : Option AV) := by kernel_rfl
@[go_sem] theorem t167 : TF 167 true 8 none (some (8, 105)) none none false (some true) 32 none none false := tf (by kernel_rfl)
@[go_sem] theorem tzA_167 : tzA Tryd.prog 167 = (some (AV.agg [AV.v (Value.int IntKind.u32 (0)), AV.v (Value.int IntKind.u32 (0)), AV.v (Value.int IntKind.u32 (0)), AV.v (Value.int IntKind.u32 (0)), AV.v (Value.int IntKind.u32 (0)), AV.v (Value.int IntKind.u32 (0)), AV.v (Value.int IntKind.u32 (0)), AV.v (Value.int IntKind.u32 (0))]) : Option AV) := by kernel_rfl
@[go_sem] theorem t168 : TF 168 true 8 none (some (8, 105)) none none false (some true) 32 none none false := tf (by kernel_rfl)
@[go_sem] theorem tzA_168 : tzA Tryd.prog 168 = (some (AV.agg [AV.v (Value.int IntKind.u32 (0)), AV.v (Value.int IntKind.u32 (0)), AV.v (Value.int IntKind.u32 (0)), AV.v (Value.int IntKind.u32 (0)), AV.v (Value.int IntKind.u32 (0)), AV.v (Value.int IntKind.u32 (0)), AV.v (Value.int IntKind.u32 (0)), AV.v (Value.int IntKind.u32 (0))]) : Option AV) := by kernel_rfl
@[go_sem] theorem t169 : TF 169 true 1 none none none none false (some false) 8 none none false := tf (by kernel_rfl)
@[go_sem] theorem tzA_169 : tzA Tryd.prog 169 = (some (AV.v Value.nilFunc) : Option AV) := by kernel_rfl
@[go_sem] theorem t170 : TF 170 true 1 none none none none false (some false) 8 none none false := tf (by kernel_rfl)
@[go_sem] theorem tzA_170 : tzA Tryd.prog 170 = (some (AV.v Value.nilFunc) : Option AV) := by kernel_rfl
@[go_sem] theorem t171 : TF 171 true 1 none none none none false (some false) 8 none none false := tf (by kernel_rfl)
@[go_sem] theorem tzA_171 : tzA Tryd.prog 171 = (some (AV.v Value.nilFunc) : Option AV) := by kernel_rfl
@[go_sem] theorem t172 : TF 172 true 1 none none none none false (some false) 8 none none false := tf (by kernel_rfl)
@[go_sem] theorem tzA_172 : tzA Tryd.prog 172 = (some (AV.v Value.nilFunc) : Option AV) := by kernel_rfl
@[go_sem] theorem t173 : TF 173 true 1 none none none none false (some false) 8 none none false := tf (by kernel_rfl)
@[go_sem] theorem tzA_173 : tzA Tryd.prog 173 = (some (AV.v Value.nilFunc) : Option AV) := by kernel_rfl
@[go_sem] theorem t174 : TF 174 true 1 none none none none false (some false) 8 none none false := tf (by kernel_rfl)
@[go_sem] theorem tzA_174 : tzA Tryd.prog 174 = (some (AV.v Value.nilFunc) : Option AV) := by kernel_rfl
@[go_sem] theorem t175 : TF 175 true 1 none none none none false (some false) 8 none none true := tf (by kernel_rfl)
@[go_sem] theorem tzA_175 : tzA Tryd.prog 175 = (some (AV.v (Value.pointer none)) : Option AV) := by kernel_rfl
@[go_sem] theorem t176 : TF 176 true 64 none (some (64, 105)) none none false (some true) 256 none none false := tf (by kernel_rfl)
@[go_sem] theorem tzA_176 : tzA Tryd.prog 176 = (some (AV.agg [AV.v (Value.int IntKind.u32 (0)), AV.v (Value.int IntKind.u32 (0)), AV.v (Value.int IntKind.u32 (0)), AV.v (Value.int IntKind.u32 (0)), AV.v (Value.int IntKind.u32 (0)), AV.v (Value.int IntKind.u32 (0)), AV.v (Value.int IntKind.u32 (0)), AV.v (Value.int IntKind.u32 (0)), AV.v (Value.int IntKind.u32 (0)), AV.v (Value.int IntKind.u32 (0)), AV.v (Value.int IntKind.u32 (0)), AV.v (Value.int IntKind.u32 (0)), AV.v (Value.int IntKind.u32 (0)), AV.v (Value.int IntKind.u32 (0)), AV.v (Value.int IntKind.u32 (0)), AV.v (Value.int IntKind.u32 (0)), AV.v (Value.int IntKind.u32 (0)), AV.v (Value.int IntKind.u32 (0)), AV.v (Value.int IntKind.u32 (0)), AV.v (Value.int IntKind.u32 (0)), AV.v (Value.int IntKind.u32 (0)), AV.v (Value.int IntKind.u32 (0)), AV.v (Value.int IntKind.u32 (0)), AV.v (Value.int IntKind.u32 (0)), AV.v (Value.int IntKind.u32 (0)), AV.v (Value.int IntKind.u32 (0)), AV.v (Value.int IntKind.u32 (0)), AV.v (Value.int IntKind.u32 (0)), AV.v (Value.int IntKind.u32 (0)), AV.v (Value.int IntKind.u32 (0)), AV.v (Value.int IntKind.u32 (0)), AV.v (Value.int IntKind.u32 (0)), AV.v (Value.int IntKind.u32 (0)), AV.v (Value.int IntKind.u32 (0)), AV.v (Value.int IntKind.u32 (0)), AV.v (Value.int IntKind.u32 (0)), AV.v (Value.int IntKind.u32 (0)), AV.v (Value.int IntKind.u32 (0)), AV.v (Value.int IntKind.u32 (0)), AV.v (Value.int IntKind.u32 (0)), AV.v (Value.int IntKind.u32 (0)), AV.v (Value.int IntKind.u32 (0)), AV.v (Value.int IntKind.u32 (0)), AV.v (Value.int IntKind.u32 (0)), AV.v (Value.int IntKind.u32 (0)), AV.v (Value.int IntKind.u32 (0)), AV.v (Value.int IntKind.u32 (0)), AV.v (Value.int IntKind.u32 (0)), AV.v (Value.int IntKind.u32 (0)), AV.v (Value.int IntKind.u32 (0)), AV.v (Value.int IntKind.u32 (0)), AV.v (Value.int IntKind.u32 (0)), AV.v (Value.int IntKind.u32 (0)), AV.v (Value.int IntKind.u32 (0)), AV.v (Value.int IntKind.u32 (0)), AV.v (Value.int IntKind.u32 (0)), AV.v (Value.int IntKind.u32 (0)), AV.v (Value.int IntKind.u32 (0)), AV.v (Value.int IntKind.u32 (0)), AV.v (Value.int IntKind.u32 (0)), AV.v (Value.int IntKind.u32 (0)), AV.v (Value.int IntKind.u32 (0)), AV.v (Value.int IntKind.u32 (0)), AV.v (Value.int IntKind.u32 (0))]) : Option AV) := by kernel_rfl
@[go_sem] theorem t177 : TF 177 true 1 none none none none false (some false) 8 none none false := tf (by kernel_rfl)
@[go_sem] theorem tzA_177 : tzA Tryd.prog 177 = (some (AV.v Value.nilFunc) : Option AV) := by kernel_rfl
@[go_sem] theorem t178 : TF 178 true 1 none none none none false (some false) 8 none none false := tf (by kernel_rfl)
@[go_sem] theorem tzA_178 : tzA Tryd.prog 178 = (some (AV.v Value.nilFunc) : Option AV) := by kernel_rfl
@[go_sem] theorem t179 : TF 179 true 32 none (some (32, 5)) none none false (some true) 32 none none false := tf (by kernel_rfl)
@[go_sem] theorem tzA_179 : tzA Tryd.prog 179 = (some (AV.agg [AV.v (Value.int IntKind.u8 (0)), AV.v (Value.int IntKind.u8 (0)), AV.v (Value.int IntKind.u8 (0)), AV.v (Value.int IntKind.u8 (0)), AV.v (Value.int IntKind.u8 (0)), AV.v (Value.int IntKind.u8 (0)), AV.v (Value.int IntKind.u8 (0)), AV.v (Value.int IntKind.u8 (0)), AV.v (Value.int IntKind.u8 (0)), AV.v (Value.int IntKind.u8 (0)), AV.v (Value.int IntKind.u8 (0)), AV.v (Value.int IntKind.u8 (0)), AV.v (Value.int IntKind.u8 (0)), AV.v (Value.int IntKind.u8 (0)), AV.v (Value.int IntKind.u8 (0)), AV.v (Value.int IntKind.u8 (0)), AV.v (Value.int IntKind.u8 (0)), AV.v (Value.int IntKind.u8 (0)), AV.v (Value.int IntKind.u8 (0)), AV.v (Value.int IntKind.u8 (0)), AV.v (Value.int IntKind.u8 (0)), AV.v (Value.int IntKind.u8 (0)), AV.v (Value.int IntKind.u8 (0)), AV.v (Value.int IntKind.u8 (0)), AV.v (Value.int IntKind.u8 (0)), AV.v (Value.int IntKind.u8 (0)), AV.v (Value.int IntKind.u8 (0)), AV.v (Value.int IntKind.u8 (0)), AV.v (Value.int IntKind.u8 (0)), AV.v (Value.int IntKind.u8 (0)), AV.v (Value.int IntKind.u8 (0)), AV.v (Value.int IntKind.u8 (0))]) : Option AV) := by kernel_rfl
@[go_sem] theorem t180 : TF 180 true 1 none none none none false (some false) 8 none none false := tf (by kernel_rfl)
@[go_sem] theorem tzA_180 : tzA Tryd.prog 180 = (some (AV.v Value.nilFunc) : Option AV) := by kernel_rfl
@[go_sem] theorem t181 : TF 181 true 4 none none (some [(0, 17), (1, 17), (2, 17), (3, 9)]) none false (some true) 40 none none false := tf (by kernel_rfl)
@[go_sem] theorem tzA_181 : tzA Tryd.prog 181 = (some (AV.agg [AV.v (Value.pointer none), AV.v (Value.pointer none), AV.v (Value.pointer none), AV.v (Value.string ByteArray.empty)]) : Option AV) := by kernel_rfl
@[go_sem] theorem t182 : TF 182 true 4 none none (some [(0, 17), (1, 17), (2, 17), (3, 9)]) none false (some true) 40 none none false := tf (by kernel_rfl)
@[go_sem] theorem tzA_182 : tzA Tryd.prog 182 = (some (AV.agg [AV.v (Value.pointer none), AV.v (Value.pointer none), AV.v (Value.pointer none), AV.v (Value.string ByteArray.empty)]) : Option AV) := by kernel_rfl
@[go_sem] theorem t183 : TF 183 true 0 none (some (0, 16)) none none false (some true) 0 none none false := tf (by kernel_rfl)
@[go_sem] theorem tzA_183 : tzA Tryd.prog 183 = (some (AV.agg []) : Option AV) := by kernel_rfl
@[go_sem] theorem t184 : TF 184 true 0 none none (some [(0, 183)]) none false (some true) 0 none none false := tf (by kernel_rfl)
@[go_sem] theorem tzA_184 : tzA Tryd.prog 184 = (some (AV.agg []) : Option AV) := by kernel_rfl
@[go_sem] theorem t185 : TF 185 true 0 none none (some [(0, 183)]) none false (some true) 0 none none false := tf (by kernel_rfl)
@[go_sem] theorem tzA_185 : tzA Tryd.prog 185 = (some (AV.agg []) : Option AV) := by kernel_rfl
@[go_sem] theorem t186 : TF 186 true 1 none none none none false (some false) 8 none none false := tf (by kernel_rfl)
@[go_sem] theorem tzA_186 : tzA Tryd.prog 186 = (some (AV.v Value.nilFunc) : Option AV) := by kernel_rfl
@[go_sem] theorem t187 : TF 187 true 1 none none none (some .u8) false (some false) 1 (some 0) none false := tf (by kernel_rfl)
@[go_sem] theorem tzA_187 : tzA Tryd.prog 187 = (some (AV.v (Value.int IntKind.u8 (0))) : Option AV) := by kernel_rfl
@[go_sem] theorem t188 : TF 188 true 1 none none none (some .u8) false (some false) 1 (some 0) none false := tf (by kernel_rfl)
@[go_sem] theorem tzA_188 : tzA Tryd.prog 188 = (some (AV.v (Value.int IntKind.u8 (0))) : Option AV) := by kernel_rfl
@[go_sem] theorem t189 : TF 189 true 1 none none none none false (some false) 8 none none false := tf (by kernel_rfl)
@[go_sem] theorem tzA_189 : tzA Tryd.prog 189 = (some (AV.v Value.nilFunc) : Option AV) := by kernel_rfl
@[go_sem] theorem t190 : TF 190 true 1 none none none (some .i32) false (some false) 4 (some 0) none false := tf (by kernel_rfl)
@[go_sem] theorem tzA_190 : tzA Tryd.prog 190 = (some (AV.v (Value.int IntKind.i32 (0))) : Option AV) := by kernel_rfl
@[go_sem] theorem t191 : TF 191 true 1 none none none (some .i32) false (some false) 4 (some 0) none false := tf (by kernel_rfl)
@[go_sem] theorem tzA_191 : tzA Tryd.prog 191 = (some (AV.v (Value.int IntKind.i32 (0))) : Option AV) := by kernel_rfl
@[go_sem] theorem t192 : TF 192 true 11 none none (some [(0, 12), (1, 12), (2, 105), (3, 187), (4, 5), (5, 5), (6, 188), (7, 189), (8, 156), (9, 190), (10, 191)]) none false (some true) 48 none none false := tf (by kernel_rfl)
@[go_sem] theorem tzA_192 : tzA Tryd.prog 192 = (some (AV.agg [AV.v (Value.int IntKind.u64 (0)), AV.v (Value.int IntKind.u64 (0)), AV.v (Value.int IntKind.u32 (0)), AV.v (Value.int IntKind.u8 (0)), AV.v (Value.int IntKind.u8 (0)), AV.v (Value.int IntKind.u8 (0)), AV.v (Value.int IntKind.u8 (0)), AV.v Value.nilFunc, AV.v (Value.pointer none), AV.v (Value.int IntKind.i32 (0)), AV.v (Value.int IntKind.i32 (0))]) : Option AV) := by kernel_rfl
@[go_sem] theorem t193 : TF 193 true 11 none none (some [(0, 12), (1, 12), (2, 105), (3, 187), (4, 5), (5, 5), (6, 188), (7, 189), (8, 156), (9, 190), (10, 191)]) none false (some true) 48 none none false := tf (by kernel_rfl)
@[go_sem] theorem tzA_193 : tzA Tryd.prog 193 = (some (AV.agg [AV.v (Value.int IntKind.u64 (0)), AV.v (Value.int IntKind.u64 (0)), AV.v (Value.int IntKind.u32 (0)), AV.v (Value.int IntKind.u8 (0)), AV.v (Value.int IntKind.u8 (0)), AV.v (Value.int IntKind.u8 (0)), AV.v (Value.int IntKind.u8 (0)), AV.v Value.nilFunc, AV.v (Value.pointer none), AV.v (Value.int IntKind.i32 (0)), AV.v (Value.int IntKind.i32 (0))]) : Option AV) := by kernel_rfl
theorem tagg_176 : tagg Tryd.prog 176 = (some true : Option Bool) := by kernel_rfl
theorem tarr_168 : tarr Tryd.prog 168 = (some (8, 105) : Option (Nat × TypeId)) := by kernel_rfl
theorem tarr_179 : tarr Tryd.prog 179 = (some (32, 5) : Option (Nat × TypeId)) := by kernel_rfl
theorem tarr_79 : tarr Tryd.prog 79 = (some (8, 3) : Option (Nat × TypeId)) := by kernel_rfl
theorem tel_106 : tel Tryd.prog 106 = (some 105 : Option TypeId) := by kernel_rfl
theorem tel_66 : tel Tryd.prog 66 = (some 5 : Option TypeId) := by kernel_rfl
theorem tel_85 : tel Tryd.prog 85 = (some 81 : Option TypeId) := by kernel_rfl
theorem tsz_105 : tsz Tryd.prog 105 = 1 := by kernel_rfl
theorem tsz_176 : tsz Tryd.prog 176 = 64 := by kernel_rfl
theorem tsz_3 : tsz Tryd.prog 3 = 1 := by kernel_rfl
theorem tsz_5 : tsz Tryd.prog 5 = 1 := by kernel_rfl
theorem tsz_81 : tsz Tryd.prog 81 = 9 := by kernel_rfl
attribute [go_sem] ne_eq not_true_eq_false not_false_eq_true decide_true decide_false List.length_map
end Go.Proofs.YtgbcfpcjljhijaaDoor
attribute [go_sem_proc ↓] reduceIte
attribute [go_sem_proc] Nat.reduceEqDiff Nat.reduceMul Nat.reduceAdd Nat.reduceDiv Nat.reduceBEq Nat.reduceLeDiff Int.reduceToNat Int.reduceNe Int.reduceEq Int.reduceLT Int.reduceLE Int.reduceBEq Int.reduceBNe

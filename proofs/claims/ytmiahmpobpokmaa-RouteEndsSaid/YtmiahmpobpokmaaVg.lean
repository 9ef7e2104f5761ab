/- New blocks: the operations. -/
import Derived.Test.YtmiahmpobpokmaaVf
namespace Go.Vai
open Go.RowKit

variable {P : Program} {C : Fx} {w : World} {ρ : Nat → Option Nat} {Im : Nat → Prop} {M : Str} {E : Env} {σ : Store} {a : Act}

def addS (σ : Store) : List (Nat × Blk) → Store
  | [] => σ
  | (id, k) :: l => addS (updS σ id k) l

/-- What an operation yields that lays blocks, and which ones. -/
def newV (P : Program) (d : Nat) (op : Op) (ty : TypeId) (E : Env) (r : AV) (bl : List (Nat × Blk)) : Prop :=
  match op with
  | .move (.const (.slice none 0 0)) => ∃ e, tel P ty = some e ∧ r = .own (16 * d) (tsz P e) 0 0 ∧ bl = [(16 * d, ⟨e, tsz P e, []⟩)]
  | .assign (.const (.slice none 0 0)) => ∃ e, tel P ty = some e ∧ r = .own (16 * d) (tsz P e) 0 0 ∧ bl = [(16 * d, ⟨e, tsz P e, []⟩)]
  | .alloc t => match tel P t with
    | some e => tz P t = some (.slice none 0 0) ∧ tsz P t = 1 ∧ r = .ptr (16 * d) 1 0 0 ∧ bl = [(16 * d + 1, ⟨e, tsz P e, []⟩), (16 * d, ⟨t, 1, [.own (16 * d + 1) (tsz P e) 0 0]⟩)]
    | none => ∃ z, tz P t = some z ∧ (ofC z).ok = true ∧ (ofC z).cells.length = tsz P t ∧ tsz P t ≠ 0 ∧ r = .ptr (16 * d) (tsz P t) 0 0 ∧ bl = [(16 * d, ⟨t, tsz P t, [ofC z]⟩)]
  | .box t x => (ev E x).ok = true ∧ (ev E x).cells.length = tsz P t ∧ tsz P t ≠ 0 ∧ r = .ptr (16 * d) (tsz P t) 0 0 ∧ bl = [(16 * d, ⟨t, tsz P t, [ev E x]⟩)]
  | .buildSlice t len parts => ∃ e, tel P t = some e ∧ 0 < tsz P e ∧ (∃ z, tz P e = some z ∧ (ofC z).ok = true ∧ (ofC z).cells.length = tsz P e) ∧ len * tsz P e ≤ 16777216 ∧ parts.toList.map (·.1) = List.range len ∧
      (∀ p ∈ parts.toList, (ev E p.2).ok = true ∧ (ev E p.2).cells.length = tsz P e) ∧ r = .own (16 * d) (tsz P e) 0 len ∧ bl = [(16 * d, ⟨e, tsz P e, parts.toList.map fun p => ev E p.2⟩)]
  | .makeSlice t l c => match ev E l, ev E c with
    | .v (.int _ n), .v (.int _ m) => ∃ e, tel P t = some e ∧ 0 < tsz P e ∧ ∃ z, tz P e = some z ∧ (ofC z).ok = true ∧ (ofC z).cells.length = tsz P e ∧ 0 ≤ n ∧ n ≤ m ∧ m * (tby P e : Int) ≤ 281474976710656 ∧ m ≤ 4611686018427387904 ∧
        r = .own (16 * d) (tsz P e) 0 n.toNat ∧ bl = [(16 * d, ⟨e, tsz P e, List.replicate n.toNat (ofC z)⟩)]
    | _, _ => False
  | _ => False

theorem ofC_names {x : Value} {id : Nat} (h : Names (ofC x) id) : False := by
  unfold ofC at h
  split at h
  · split at h
    · cases h with | agg _ c _ hc h => obtain ⟨y, _, rfl⟩ := List.mem_map.1 hc; cases h
    · cases h
  · cases h with | tup _ c _ hc h => obtain ⟨y, _, rfl⟩ := List.mem_map.1 hc; cases h
  · cases h

theorem ev_names {x : Operand} {id : Nat} (h : Names (ev E x) id) : ∃ t, x = .tmp t ∧ Names (E t) id := by
  cases x with
  | tmp t => exact ⟨t, rfl, h⟩
  | const v => exact (ofC_names h).elim
  | global g => cases h
  | func f => cases h with | clo _ _ c _ hc h => simp at hc

theorem cells_names {v c : AV} {id : Nat} (hc : c ∈ v.cells) (h : Names c id) : Names v id := by
  cases v with
  | agg cs => exact .agg cs c id hc h
  | _ => simp only [AV.cells, List.mem_singleton] at hc; subst hc; exact h

theorem Clean.ev {d : Nat} (h : Clean d E σ) (x : Operand) : ¬ Names (ev E x) d := fun hn => by
  obtain ⟨t, _, ht⟩ := ev_names hn; exact h.2.1 t ht

theorem newNilC_sound (hG : GStable C.G) (h : Wit C E σ a w ρ Im M) {d nm : Nat} (hpn : C.pin (16 * nm) = none) (hcl : Clean (16 * nm) E σ) (hd : d < C.N) (e sz : Nat) :
    Wit C (upd E d (.own (16 * nm) sz 0 0)) (updS σ (16 * nm) ⟨e, sz, []⟩) (a.put (some d) (.slice none 0 0)) w (updR ρ (16 * nm) none) Im M :=
  h.newNil hG hpn hcl e sz (dst := some d) (fun _ e => by cases e; exact hd) (.ownNil _ _ (by simp))

theorem rep_names_irrel {v : AV} {y : Value} {d : Nat} {ob : Option Nat} {w' : World} (h : Wit C E σ a w ρ Im M) (hr : Rep w ρ Im v y) (hn : ¬ Names v d) (hb : ∀ k, k < w.heap.size → w'.heap[k]? = w.heap[k]?) : Rep w' (updR ρ d ob) Im v y :=
  hr.later h.inv.low (fun _ _ => h.inv.lt) hb hn

/-- A pointer to a new block of one value. -/
theorem newVar_sound (hG : GStable C.G) (h : Wit C E σ a w ρ Im M) {d nm : Nat} (hpn : C.pin (16 * nm) = none) (hcl : Clean (16 * nm) E σ) (hd : d < C.N) {t sz : Nat} {v : AV} {y : Value} (hok : v.ok = true) (hsz : v.cells.length = sz) (hz : sz ≠ 0)
    (hr : Rep w ρ Im v y) (hn : ¬ Names v (16 * nm)) :
    Wit C (upd E d (.ptr (16 * nm) sz 0 0)) (updS σ (16 * nm) ⟨t, sz, [v]⟩) (a.put (some d) (.pointer (some ⟨w.heap.size, 0, none⟩))) (w.alloc (.cells y.cells t)) (updR ρ (16 * nm) (some w.heap.size)) Im M := by
  refine h.newBlock hG hpn hcl (k := ⟨t, sz, [v]⟩) (filled_one hok hr hsz) ?_ hz (dst := some d) (fun _ e => by cases e; exact hd) ?_
  · intro e he hnn; simp at he; subst he; exact hn hnn
  · have := Rep.ptr (w := w.alloc (.cells y.cells t)) (ρ := updR ρ (16 * nm) (some w.heap.size)) (Im := Im) (16 * nm) sz 0 0 w.heap.size (by simp) hz
    simpa using this

/-- Elements one behind the other. -/
theorem fill_row {sz : Nat} (hsz : 0 < sz) : ∀ (l : List (Nat × AV)) (i n : Nat) (cs : List AV), l.map (·.1) = (List.range' i l.length) → (∀ p ∈ l, p.2.ok = true ∧ p.2.cells.length = sz) → cs.length = n * sz → i + l.length ≤ n →
    ∃ cs', fillA (fun i => some (i * sz, sz)) cs l = some cs' ∧ cs'.length = n * sz ∧ (∀ k, k < i * sz → cs'[k]? = cs[k]?) ∧ ∀ (m j : Nat) (v c : AV), (l.map (·.2))[m]? = some v → v.cells[j]? = some c → cs'[(i + m) * sz + j]? = some c
  | [], i, n, cs, _, _, hl, _ => ⟨cs, rfl, hl, fun _ _ => rfl, fun m j v c h => by simp at h⟩
  | (i', v) :: l, i, n, cs, hi, hv, hl, hle => by
    simp only [List.map_cons, List.length_cons, List.range'_succ, List.cons.injEq] at hi
    obtain ⟨rfl, hi⟩ := hi
    obtain ⟨hok, hvl⟩ := hv (i', v) (by simp)
    simp only at hok hvl
    simp only [List.length_cons] at hle
    have hb : i' * sz + sz ≤ cs.length := by rw [hl, ← Nat.succ_mul]; exact Nat.mul_le_mul_right _ (by omega)
    obtain ⟨cs', h1, h2, h3, h4⟩ := fill_row hsz l (i' + 1) n (cs.take (i' * sz) ++ v.cells ++ cs.drop (i' * sz + sz)) hi (fun p hp => hv p (by simp [hp])) (by simp [hvl]; omega) (by omega)
    refine ⟨cs', ?_, h2, fun k hk => ?_, fun m j v' c hm hc => ?_⟩
    · simp only [fillA]; rw [if_pos ⟨hvl, hb, hok⟩]; exact h1
    · rw [h3 k (by rw [Nat.succ_mul]; omega), List.append_assoc, List.getElem?_append_left (by simp; omega), List.getElem?_take, if_pos hk]
    · cases m with
      | zero =>
        simp at hm; subst hm
        have hj : j < sz := by rw [← hvl]; exact (List.getElem?_eq_some_iff.1 hc).1
        rw [Nat.add_zero, h3 _ (by rw [Nat.succ_mul]; omega), List.getElem?_append_left (by simp; omega), List.getElem?_append_right (by simp; omega)]
        simpa [List.length_take, Nat.min_eq_left (show i' * sz ≤ cs.length by omega)] using hc
      | succ m =>
        have := h4 m j v' c (by simpa using hm) hc
        rw [show i' + (m + 1) = i' + 1 + m from by omega]; exact this

theorem put_none (a : Act) (y : Value) : a.put none y = a := rfl

theorem names_own {id sz i n d : Nat} (h : Names (.own id sz i n) d) : d = id := by cases h; rfl

/-- **An operation that lays new blocks.** -/
theorem newV_sound (hG : GStable C.G) (h : Wit C E σ a w ρ Im M) {d nm : Nat} (hpn : ∀ k, k < 16 → C.pin (16 * nm + k) = none) (hcl : Clean (16 * nm) E σ) (hcl1 : Clean (16 * nm + 1) E σ) (hd : d < C.N) {o : Oper} (ho : o.dst = some d) (hlow : Op.low C.N o.op = true)
    {r : AV} {bl : List (Nat × Blk)} (hv : newV P nm o.op o.type E r bl) :
    ∃ y w' ρ', (execOp a.eval o).run P w = .ok (.value y) w' ∧ Wit C (upd E d r) (addS σ bl) (a.put o.dst y) w' ρ' Im M := by
  have rep : ∀ x, x ∈ o.op.operands → Rep w ρ Im (ev E x) (a.eval x) := fun x hx => ev_rep h.env (by rw [h.size]; exact low_of hlow hx)
  rw [ho]
  obtain ⟨dst, op, ty, pos, after, guard⟩ := o
  simp only at hlow hv rep ho
  unfold newV at hv
  split at hv
  · obtain ⟨e, _, rfl, rfl⟩ := hv
    exact ⟨_, w, _, rfl, newNilC_sound hG h (hpn 0 (by omega)) hcl hd e _⟩
  · obtain ⟨e, _, rfl, rfl⟩ := hv
    exact ⟨_, w, _, rfl, newNilC_sound hG h (hpn 0 (by omega)) hcl hd e _⟩
  · -- alloc
    rename_i t
    split at hv
    · rename_i e he
      obtain ⟨hz, hsz, rfl, rfl⟩ := hv
      have h1 := h.newNil hG (hpn 1 (by omega)) hcl1 e (tsz P e) (dst := none) (v := .any) (y := undef) (by simp) (.im _ _ (.any _))
      have hne : 16 * nm + 1 ≠ 16 * nm := by omega
      have h2 := newVar_sound hG h1 (hpn 0 (by omega)) (d := d) (t := t) (sz := 1) (v := .own (16 * nm + 1) (tsz P e) 0 0) (y := .slice none 0 0) (hcl.add hne (by simp)) hd rfl rfl (by omega) (.ownNil _ _ (by simp)) (fun hn => by have := names_own hn; omega)
      exact ⟨_, _, _, by simp [execOp, Instr.alloc, run_zero hz, newVar, newRow], h2⟩
    · obtain ⟨z, hz, hok, hl, hnz, rfl, rfl⟩ := hv
      have h2 := newVar_sound hG h (hpn 0 (by omega)) hcl hd (t := t) hok hl hnz (ofC_rep z) (fun hn => ofC_names hn)
      exact ⟨_, _, _, by simp [execOp, Instr.alloc, run_zero hz, newVar, newRow], h2⟩
  · -- box
    rename_i t x
    obtain ⟨hok, hl, hnz, rfl, rfl⟩ := hv
    have h2 := newVar_sound hG h (hpn 0 (by omega)) hcl hd (t := t) hok hl hnz (rep x (by simp [Op.operands])) (hcl.ev x)
    exact ⟨_, _, _, by simp [execOp, Instr.box, newVar, newRow], h2⟩
  · -- buildSlice
    rename_i t len parts
    obtain ⟨e, he, hz, ⟨z, hzv, hzok, hzl⟩, hbig, hidx, hparts, rfl, rfl⟩ := hv
    have hlen : parts.toList.length = len := by have := congrArg List.length hidx; simpa using this
    have hp := pairs_of h.env parts.toList fun p hp => by rw [h.size]; exact low_of hlow (by simp [Op.operands]; exact ⟨p.1, Array.mem_toList_iff.1 hp⟩)
    have hkn : ∀ v ∈ parts.toList.map (fun p => ev E p.2), ¬ Names v (16 * nm) := fun v hv hn => by
      obtain ⟨p, _, rfl⟩ := List.mem_map.1 hv; exact hcl.ev p.2 hn
    have key : ∀ zs : List Value, zs.length = len * tsz P e → (∀ y ∈ zs, y.oneCell' = true) → ∃ cur : Array Value, Instr.fill (fun i => some (i * tsz P e, tsz P e)) zs.toArray (parts.map fun (i, x) => (i, a.eval x)).toList = some cur ∧ cur.size = len * tsz P e ∧
        Filled w ρ Im ⟨e, tsz P e, parts.toList.map fun p => ev E p.2⟩ cur := fun zs hzs hz1 => by
      obtain ⟨cs', hf, hcl', _, hall⟩ := fill_row hz (parts.toList.map fun p => (p.1, ev E p.2)) 0 len (List.replicate (len * tsz P e) .any)
        (by rw [List.map_map, List.length_map, hlen, ← List.range_eq_range', ← hidx]; rfl) (fun p hp => by obtain ⟨q, hq, rfl⟩ := List.mem_map.1 hp; exact hparts q hq) (by simp) (by simp [hlen])
      have hany : Reps w ρ Im (List.replicate (len * tsz P e) .any) zs := ⟨by simp [hzs], fun j c y hc _ => by
        rw [List.getElem?_replicate] at hc; split at hc <;> simp at hc; subst hc; exact .im _ _ (.any _)⟩
      obtain ⟨ys', hfill, hrep, h1'⟩ := fill_sound _ _ _ _ _ hp hf hany hz1
      refine ⟨ys'.toArray, by simpa using hfill, by simp [← hrep.1, hcl'], ?_, ?_, fun i v j c hv hc => ?_⟩
      · intro v hv; obtain ⟨p, hp, rfl⟩ := List.mem_map.1 hv; exact (hparts p hp).2
      · simp [hlen, ← hrep.1, hcl']
      · have hcs := hall i j v c (by simpa [List.map_map] using hv) hc
        rw [Nat.zero_add] at hcs
        have hlt : i * tsz P e + j < ys'.length := by rw [← hrep.1]; exact (List.getElem?_eq_some_iff.1 hcs).1
        exact ⟨ys'[i * tsz P e + j], by simp [hlt], h1' _ (List.getElem_mem hlt), hrep.2 _ c _ hcs (List.getElem?_eq_getElem hlt)⟩
    have fin : ∀ cur : Array Value, cur.size = len * tsz P e → Filled w ρ Im ⟨e, tsz P e, parts.toList.map fun p => ev E p.2⟩ cur →
        Wit C (upd E d (.own (16 * nm) (tsz P e) 0 len)) (addS σ [(16 * nm, ⟨e, tsz P e, parts.toList.map fun p => ev E p.2⟩)]) (a.put (some d) (.slice (some ⟨w.heap.size, 0, none⟩) len len)) (w.alloc (.cells cur e)) (updR ρ (16 * nm) (some w.heap.size)) Im M := fun cur hcur hfl => by
      refine h.newBlock hG (hpn 0 (by omega)) hcl (k := ⟨e, tsz P e, _⟩) hfl hkn (Nat.pos_iff_ne_zero.1 hz) (dst := some d) (fun _ e => by cases e; exact hd) ?_
      exact .own (16 * nm) (tsz P e) len w.heap.size len cur e (by simp) (Nat.le_refl _) (by simp only [maxLen]; have := Nat.le_mul_of_pos_right len hz; omega) (World.alloc_heap_new w _) hcur (Nat.pos_iff_ne_zero.1 hz)
    by_cases h0 : len * tsz P e = 0
    · have hl0 : len = 0 := by rcases Nat.mul_eq_zero.1 h0 with h' | h'; exact h'; omega
      obtain ⟨cur, hfill, hcs, hfl⟩ := key [] (by simp [h0]) (by simp)
      refine ⟨_, _, _, ?_, fin cur hcs hfl⟩
      have hp0 : parts = #[] := by rw [← Array.toArray_toList (xs := parts), List.eq_nil_of_length_eq_zero (hlen.trans hl0)]
      subst hp0; subst hl0
      simp [Instr.fill] at hfill; subst hfill
      simp [execOp, Instr.buildSlice, run_underlying (tel_of he), run_sizeOf' hz, Instr.fill, newRow, Array.range_zero']
    · -- the zero value's cells are overwritten
      obtain ⟨zs, hzc, hzsl, hz1, _⟩ := Value.cells_ofC hzok
      have hzn : zs.length = tsz P e := by rw [← hzsl]; exact hzl
      obtain ⟨cur, hfill, hcs, hfl⟩ := key ((List.range (len * tsz P e)).map fun k => zs[k % zs.length]!) (by simp) (fun y hy => by
        obtain ⟨k, _, rfl⟩ := List.mem_map.1 hy
        have hlt : k % zs.length < zs.length := Nat.mod_lt _ (by omega)
        rw [getElem!_pos zs _ hlt]; exact hz1 _ (List.getElem_mem hlt))
      refine ⟨_, _, _, ?_, fin cur hcs hfl⟩
      have hinit : (Array.range (len * tsz P e)).map (zs.toArray[· % zs.toArray.size]!) = ((List.range (len * tsz P e)).map fun k => zs[k % zs.length]!).toArray := by
        rw [← List.toArray_range, List.map_toArray]; congr 1; apply List.map_congr_left; intro k _; simp
      have hnb : ¬ (len * tsz P e > 2 ^ 24) := by simp; omega
      simp only [execOp, Instr.buildSlice, Sem.run_bind, run_underlying (tel_of he) w, Result.andThen_ok, run_sizeOf' hz w, hnb, if_false, h0, run_zero hzv w, Sem.run_pure, hzc, hinit, hfill, newRow, run_newObj_alloc]
  · -- makeSlice
    rename_i t l c
    split at hv
    · rename_i kl n kc m hl hc
      obtain ⟨e, he, hz, z, hzv, hok, hzl, h0, hnm, hby, h63, rfl, rfl⟩ := hv
      have hl' := rep l (by simp [Op.operands]); have hc' := rep c (by simp [Op.operands])
      rw [hl] at hl'; rw [hc] at hc'
      have hl' := hl'.v_inv; have hc' := hc'.v_inv
      obtain ⟨i, hi, hiz, his, hib⟩ := tz_of hzv
      have hr := run_make (P := P) w t e i z (tel_of he) hi hiz kl kc n m h0 hnm (by rw [hib, Int.mul_comm]; exact hby) (by omega)
      obtain ⟨zs, hzc, hzsl, hz1, hzr⟩ := Value.cells_ofC hok
      have hzn : zs.length = tsz P e := by rw [← hzsl]; exact hzl
      have hsz : (madeCells z.cells (m.toNat * i.size)).size = m.toNat * tsz P e := by rw [size_madeCells, his]
      refine ⟨.slice (some ⟨w.heap.size, 0, none⟩) n.toNat m.toNat, w.alloc (.cells (madeCells z.cells (m.toNat * i.size)) e), updR ρ (16 * nm) (some w.heap.size), by simp [execOp, hl', hc', hr], ?_⟩
      refine h.newBlock hG (hpn 0 (by omega)) hcl (k := ⟨e, tsz P e, List.replicate n.toNat (ofC z)⟩) ?_ ?_ (Nat.pos_iff_ne_zero.1 hz) (dst := some d) (fun _ e => by cases e; exact hd) ?_
      · refine ⟨fun v hv => ?_, ?_, fun i' v j c' hv hc' => ?_⟩
        · simp only [List.mem_replicate] at hv; rw [hv.2]; exact hzl
        · rw [hsz]; simp only [List.length_replicate]; exact Nat.mul_le_mul_right _ (by omega)
        · simp only [List.getElem?_replicate] at hv
          split at hv
          · rename_i hlt
            simp at hv; subst hv
            have hj : j < zs.length := by rw [← hzsl]; exact (List.getElem?_eq_some_iff.1 hc').1
            refine ⟨zs[j], ?_, hz1 _ (List.getElem_mem hj), (hzr w ρ Im).2 j c' _ hc' (List.getElem?_eq_getElem hj)⟩
            simp only [madeCells, his]
            have hb : i' * tsz P e + j < m.toNat * tsz P e := by
              have : (i' + 1) * tsz P e ≤ m.toNat * tsz P e := Nat.mul_le_mul_right _ (by omega)
              rw [Nat.succ_mul] at this; omega
            have hmod : (i' * tsz P e + j) % tsz P e = j := by rw [Nat.add_comm, Nat.add_mul_mod_self_right]; exact Nat.mod_eq_of_lt (by omega)
            simp [hb, hzc, hzn, hmod, hzn ▸ hj]
          · cases hv
      · intro v hv hn
        simp only [List.mem_replicate] at hv
        rw [hv.2] at hn
        exact ofC_names hn
      · exact .own (16 * nm) (tsz P e) n.toNat w.heap.size m.toNat _ e (by simp) (by omega) (by simp only [maxLen]; omega) (World.alloc_heap_new w _) hsz (Nat.pos_iff_ne_zero.1 hz)
    · exact hv.elim
  · exact hv.elim

end Go.Vai

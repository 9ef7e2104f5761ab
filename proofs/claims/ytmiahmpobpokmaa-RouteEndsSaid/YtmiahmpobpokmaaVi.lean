/- Appends and stores: sound. -/
import Derived.Test.YtmiahmpobpokmaaVh
namespace Go.Vai
open Go.RowKit

variable {P : Program} {C : Fx} {w : World} {ρ : Nat → Option Nat} {Im : Nat → Prop} {M : Str} {E : Env} {σ : Store} {a : Act}

def isId (id : Nat) : Nat → Bool := fun i => i == id

theorem filled_kill {w' : World} {id g : Nat} {k : Blk} {cur : Array Value} (hb : ∀ k, (∃ i, killR (isId id) ρ i = some k) ∨ Im k → w'.heap[k]? = w.heap[k]?)
    (hl : ∀ e ∈ k.es, e.cells.length = k.sz) (hs : k.es.length * k.sz ≤ cur.size)
    (h : ∀ (i : Nat) (e : AV) (j : Nat) (c : AV), k.es[i]? = some e → e.cells[j]? = some c → ∃ x, cur[i * k.sz + j]? = some x ∧ x.oneCell' = true ∧ Rep w ρ Im c x) :
    Filled w' (updR (killR (isId id) ρ) id (some g)) Im (k.kill (isId id)) cur := by
  obtain ⟨q1, q2, q3⟩ := Blk.kill_sz (isId id) k
  refine ⟨by rw [q1]; exact Blk.kill_len _ k hl, by rw [q1, q3]; exact hs, fun i e j c he hc => ?_⟩
  obtain ⟨e0, c0, he0, hc0, hor, hnn⟩ := Blk.kill_get (isId id) k he hc
  obtain ⟨x, hx, h1, hr⟩ := h i e0 j c0 he0 hc0
  rw [q1]
  refine ⟨x, hx, h1, Rep.carry (Rep.killR (p := isId id) ?_ fun id' hid => (hnn id' hid).2) hb fun hn => by have := (hnn id hn).2; simp [isId] at this⟩
  rcases hor with rfl | rfl
  · exact hr
  · exact hr.dk _

theorem pin_not {id : Nat} (h : C.pin id = none) : ∀ i b, C.pin i = some b → isId id i = false := fun i b hb => by
  simp only [isId, beq_eq_false_iff_ne]; rintro rfl; rw [h] at hb; cases hb

/-- The block 'id' is now 'g', filled anew; all else of the store lies as it lay. -/
theorem Wit.renew (hG : GStable C.G) (h : Wit C E σ a w ρ Im M) {id d : Nat} (hd : d < C.N) {k : Blk} {cur : Array Value} {w' : World} {g : Nat}
    (hx : Ext w (fun b => ∃ i, ρ i = some b) w') (hg : (∃ i, isId id i = true ∧ ρ i = some g) ∨ w.heap.size ≤ g)
    (hb : ∀ k, k ≠ g → k < w.heap.size → w'.heap[k]? = w.heap[k]?) (hc : w'.heap[g]? = some (.cells cur k.e (0, 0)))
    (hl : ∀ e ∈ k.es, e.cells.length = k.sz) (hs : k.es.length * k.sz ≤ cur.size)
    (hf : ∀ (i : Nat) (e : AV) (j : Nat) (c : AV), k.es[i]? = some e → e.cells[j]? = some c → ∃ x, cur[i * k.sz + j]? = some x ∧ x.oneCell' = true ∧ Rep w ρ Im c x)
    {sz n cap : Nat} (hn : n ≤ cap) (hcap : cap ≤ maxLen) (hsz : cur.size = cap * sz) (hz : sz ≠ 0) (hkz : k.sz ≠ 0) (hpn : C.pin id = none) :
    Wit C (upd (killE (isId id) E) d (.own id sz 0 n)) (updS (killS (isId id) σ) id (k.kill (isId id))) (a.put (some d) (.slice (some ⟨g, 0, none⟩) n cap)) w' (updR (killR (isId id) ρ) id (some g)) Im M := by
  have hpp := pin_not hpn
  have h1 := h.kill hG (isId id) hpp
  have hcl : Clean id (killE (isId id) E) (killS (isId id) σ) := clean_kill (by simp [isId]) E σ
  have hgr : ∀ i, killR (isId id) ρ i ≠ some g := fun i hi => by
    obtain ⟨hp, hi⟩ := killR_some hi
    rcases hg with ⟨i', hi', hr⟩ | hg
    · rw [h.inv.inj i i' g hi hr, hi'] at hp; cases hp
    · have := h.inv.lt hi; omega
  have hgI : ¬ Im g := fun hI => by
    rcases hg with ⟨i', _, hr⟩ | hg
    · exact h.inv.apart i' g hr hI
    · have := h.inv.low g hI; omega
  have hb' : ∀ k, (∃ i, killR (isId id) ρ i = some k) ∨ Im k → w'.heap[k]? = w.heap[k]? := fun k hk => by
    refine hb k (fun e => ?_) ?_
    · subst e; rcases hk with ⟨i, hi⟩ | hI
      · exact hgr i hi
      · exact hgI hI
    · rcases hk with ⟨i, hi⟩ | hI
      · exact h1.inv.lt hi
      · exact h.inv.low k hI
  have hke : (k.kill (isId id)).e = k.e := (Blk.kill_sz _ k).2.1
  refine h.step hG hx (h1.inv.adopt hx.size hb' hcl hgr hgI (by rw [(Blk.kill_sz _ k).1]; exact hkz) (by rw [hke]; exact hc) (filled_kill hb' hl hs hf)) ?_ (put_size a (some d) _) (put_defers ..) ?_ (fun i b hi => ?_) (fun _ hi => .inl hi) (pin_new h1 hpn) (fun _ h => h)
  · refine EnvRep.put (dst := some d) (tm := a) (E := killE (isId id) E) (fun t y hy => (h1.env t y hy).carry hb' (hcl.2.1 t)) ?_
    exact .own id sz n g cap cur k.e (by simp) hn hcap hc hsz hz
  · have : upd (killE (isId id) E) d (.own id sz 0 n) C.N = killE (isId id) E C.N := by simp only [upd]; rw [if_neg (by omega)]
    rw [this]; exact kill_of_not (h.gh _)
  · by_cases e : i = id
    · subst e; simp at hi; subst hi
      rcases hg with ⟨i', _, hr⟩ | hg
      · exact .inl ⟨i', hr⟩
      · exact .inr hg
    · rw [updR_ne _ _ _ _ e] at hi; exact .inl ⟨i, (killR_some hi).2⟩

/-- The same, the slice staying nil. -/
theorem Wit.renewNil (hG : GStable C.G) (h : Wit C E σ a w ρ Im M) {id d : Nat} (hd : d < C.N) (e sz : Nat) (hpn : C.pin id = none) :
    Wit C (upd (killE (isId id) E) d (.own id sz 0 0)) (updS (killS (isId id) σ) id ((⟨e, sz, []⟩ : Blk).kill (isId id))) (a.put (some d) (.slice none 0 0)) w (updR (killR (isId id) ρ) id none) Im M := by
  have h1 := h.kill hG (isId id) (pin_not hpn)
  have : (⟨e, sz, []⟩ : Blk).kill (isId id) = ⟨e, sz, []⟩ := by simp [Blk.kill, AV.namesL]
  rw [this]
  exact h1.newNil hG hpn (clean_kill (by simp [isId]) E σ) e sz (dst := some d) (fun _ e => by cases e; exact hd) (.ownNil _ _ (by simp))

theorem run_append_zero {t e : TypeId} {ty : TypeId} (ht : tel P t = some e) (hz : 0 < tsz P e) (ad : Option Addr) (n cap : Nat) (h : n ≤ cap) (ad' : Option Addr) (c : Nat) (w : World) :
    (Builtin.append_ #[t, t] ty #[.slice ad n cap, .slice ad' 0 c]).run P w = .ok (.slice ad n cap) w := by
  have h1 : (Builtin.firstCells (tsz P e) 0 (.slice ad' 0 c)).run P w = .ok #[] w := by
    cases ad' <;> simp [Builtin.firstCells, loadCells, loadCellsFrom]
  cases ad <;> simp [Builtin.append_, run_underlying (tel_of ht), run_sizeOf' hz, Builtin.lenOf, h, h1, storeCells]

theorem Rep.own0_inv {id sz n : Nat} {y : Value} (h : Rep w ρ Im (.own id sz 0 n) y) : (y = .slice none 0 0 ∧ n = 0 ∧ ρ id = none) ∨
    ∃ b cap cur e, y = .slice (some ⟨b, 0, none⟩) n cap ∧ ρ id = some b ∧ n ≤ cap ∧ cap ≤ maxLen ∧ w.heap[b]? = some (.cells cur e (0, 0)) ∧ cur.size = cap * sz ∧ sz ≠ 0 := by
  cases h with
  | im _ _ h => cases h
  | ownNil _ _ hρ => exact .inl ⟨rfl, rfl, hρ⟩
  | own _ _ _ b cap cur e hρ hn hcap hb hs hz => exact .inr ⟨b, cap, cur, e, rfl, hρ, hn, hcap, hb, hs, hz⟩
  | ownAt _ _ _ _ _ _ _ h0 => omega

/-- **An append to a slice of the store.** -/
theorem app_sound (hG : GStable C.G) (h : Wit C E σ a w ρ Im M) {d : Nat} (hd : d < C.N) {o : Oper} (ho : o.dst = some d) (hlow : Op.low C.N o.op = true)
    {K : Nat → Nat → Nat → Blk → Prop} (hv : appV P o.op E σ fun id sz n k => C.pin id = none ∧ K id sz n k) :
    ∃ id sz n k y w' ρ', K id sz n k ∧ (execOp a.eval o).run P w = .ok (.value y) w' ∧ Wit C (upd (killE (isId id) E) d (.own id sz 0 n)) (updS (killS (isId id) σ) id (k.kill (isId id))) (a.put o.dst y) w' ρ' Im M := by
  have rep : ∀ x, x ∈ o.op.operands → Rep w ρ Im (ev E x) (a.eval x) := fun x hx => ev_rep h.env (by rw [h.size]; exact low_of hlow hx)
  rw [ho]
  obtain ⟨dst, op, ty, pos, after, guard⟩ := o
  simp only at hlow hv rep ho
  unfold appV at hv
  split at hv
  · rename_i args argTypes
    split at hv
    · rename_i s x t t' hargs htypes
      have ha' : args = #[s, x] := by rw [← Array.toArray_toList (xs := args), hargs]
      have ht' : argTypes = #[t, t'] := by rw [← Array.toArray_toList (xs := argTypes), htypes]
      subst ha'; subst ht'
      obtain ⟨rfl, e, he, hz, ⟨z, hzv, hzok, hzl⟩, hv⟩ := hv
      obtain ⟨i, hi, hiz, his, hib⟩ := tz_of hzv
      have hs := rep s (by simp [Op.operands, Call.operands])
      have hx := rep x (by simp [Op.operands, Call.operands])
      split at hv
      · rename_i id sz n hes
        rw [hes] at hs
        obtain ⟨rfl, k, hk, hksz, rfl, hn, hsrc⟩ := hv
        obtain ⟨sz', xs, ad, cap, ⟨hsz', hok, hby, h63, hpn, hK⟩, hy, hmem⟩ := src_cells h.inv hsrc hx
        have exec : ∀ v u w', (Builtin.append_ #[t', t'] ty #[a.eval s, a.eval x]).run P w = .ok u w' → v = u → (execOp a.eval { dst, op := .call { callee := .builtin .append, args := #[s, x], argTypes := #[t', t'] }, type := ty, pos, after, guard }).run P w = .ok (.value v) w' := by
          rintro v u w' hr rfl
          simp [execOp, resolve, invoke, builtin, hr]
        have hzc : z.cells.size = i.size := by
          obtain ⟨zs, h1, h2, _⟩ := Value.cells_ofC hzok
          rw [h1, his]; simp [← h2, hzl]
        by_cases hx0 : xs = []
        · -- nothing is appended
          subst hx0
          simp only [List.length_nil, Nat.add_zero, List.append_nil] at hK hy
          rcases hs.own0_inv with ⟨hsy, rfl, hρ⟩ | ⟨b, cap', cur, e', hsy, hρ, hnc, hcap, hb, hsz, hnz⟩
          · have hk0 := h.inv.nil id k hk hρ
            refine ⟨id, tsz P k.e, 0, _, _, w, updR (killR (isId id) ρ) id none, hK, exec _ _ _ (by rw [hy, hsy]; exact run_append_zero he hz none 0 0 (Nat.le_refl _) ad cap w) rfl, ?_⟩
            rw [hk0]; simp only [List.take_nil]
            exact h.renewNil hG hd k.e _ hpn
          · obtain ⟨cur2, hb2, hl, hs2, hc2⟩ := h.inv.blk id k b hk hρ (by omega)
            rw [hb] at hb2; cases hb2
            refine ⟨id, tsz P k.e, n, _, _, w, updR (killR (isId id) ρ) id (some b), hK, exec _ _ _ (by rw [hy, hsy]; exact run_append_zero he hz _ n cap' hnc ad cap w) rfl, ?_⟩
            refine h.renew hG hd (k := ⟨k.e, tsz P k.e, k.es.take n⟩) (g := b) (Ext.refl _ _) (.inl ⟨id, by simp [isId], hρ⟩) (fun _ _ _ => rfl) hb (fun e he => by rw [← hksz]; exact hl e (List.mem_of_mem_take he)) ?_ (fun i e j c he hc => ?_) hnc hcap hsz hnz (Nat.pos_iff_ne_zero.1 hz) hpn
            · simp only [List.length_take]; rw [hsz]; exact Nat.mul_le_mul_right _ (by omega)
            · simp only at he
              rw [List.getElem?_take] at he
              split at he
              · have := hc2 i e j c he hc; rw [hksz] at this; exact this
              · cases he
        · -- elements
          have hsz' := hsz' hx0
          subst hsz'
          rcases hmem with ⟨h0, _⟩ | ⟨b', o', rfl, hxl, hxc⟩
          · exact absurd h0 hx0
          obtain ⟨news, hnl, hnc, hn1, hnr⟩ := flat_cells hxl hxc
          have hm : 0 < xs.length := List.length_pos_iff.2 hx0
          have hcapm : ∀ old, grownCap w (n + xs.length) old k.e ≤ maxLen := fun old => grownCap_le_maxLen w _ old k.e (by simp only [maxLen]; omega)
          have hcapg : ∀ old, n + xs.length ≤ grownCap w (n + xs.length) old k.e := fun old => grownCap_ge w _ old k.e
          -- what the new block holds: 'olds', 'news'
          have hold : ∃ olds : List Value, olds.length = n * tsz P k.e ∧ (∀ v ∈ olds, v.oneCell' = true) ∧
              (∀ (b : Nat) (cur : Array Value), ρ id = some b → w.heap[b]? = some (.cells cur k.e (0, 0)) → olds = cur.toList.take (n * tsz P k.e)) ∧
              ∀ (i : Nat) (e : AV) (j : Nat) (c : AV), i < n → k.es[i]? = some e → e.cells[j]? = some c → ∃ v, olds[i * tsz P k.e + j]? = some v ∧ v.oneCell' = true ∧ Rep w ρ Im c v := by
            cases hρ : ρ id with
            | none =>
              have hk0 := h.inv.nil id k hk hρ
              rw [hk0] at hn
              have : n = 0 := by simpa using hn
              subst this
              exact ⟨[], by simp, by simp, fun b cur hb => by simp at hb, fun i e j c hi => by omega⟩
            | some b =>
              obtain ⟨cur, hb, hl, hs2, hc2⟩ := h.inv.blk id k b hk hρ (by omega)
              rw [hksz] at hs2 hc2
              have hle : n * tsz P k.e ≤ cur.size := Nat.le_trans (Nat.mul_le_mul_right _ hn) hs2
              refine ⟨cur.toList.take (n * tsz P k.e), by simp; omega, fun v hv => ?_, fun b' cur' hb' hcur' => ?_, fun i e j c hi hec hcc => ?_⟩
              · obtain ⟨q, hq⟩ := List.mem_iff_getElem?.1 hv
                rw [List.getElem?_take] at hq
                split at hq
                · rename_i hlt
                  have hi' : q / tsz P k.e < k.es.length := Nat.lt_of_lt_of_le ((Nat.div_lt_iff_lt_mul hz).2 hlt) hn
                  have hj' : q % tsz P k.e < (k.es[q / tsz P k.e]).cells.length := by rw [hl _ (List.getElem_mem hi'), hksz]; exact Nat.mod_lt _ hz
                  obtain ⟨x', hx', h1', _⟩ := hc2 (q / tsz P k.e) _ (q % tsz P k.e) _ (List.getElem?_eq_getElem hi') (List.getElem?_eq_getElem hj')
                  rw [Nat.mul_comm, Nat.div_add_mod] at hx'
                  have : cur.toList[q]? = some x' := by simpa using hx'
                  rw [this] at hq; cases hq; exact h1'
                · cases hq
              · cases hb'; rw [hb] at hcur'; cases hcur'; rfl
              · obtain ⟨x', hx', h1', hr'⟩ := hc2 i e j c hec hcc
                have hj : j < tsz P k.e := by rw [← hksz, ← hl e (List.mem_of_getElem? hec)]; exact (List.getElem?_eq_some_iff.1 hcc).1
                have hlt : i * tsz P k.e + j < n * tsz P k.e := by
                  have : (i + 1) * tsz P k.e ≤ n * tsz P k.e := Nat.mul_le_mul_right _ hi
                  rw [Nat.succ_mul] at this; omega
                exact ⟨x', by rw [List.getElem?_take, if_pos hlt]; simpa using hx', h1', hr'⟩
          obtain ⟨olds, hol, ho1, hoeq, hor⟩ := hold
          have hes : (k.es.take n).length = n := by rw [List.length_take]; omega
          have hfill : ∀ rest : List Value, ∀ (i : Nat) (e : AV) (j : Nat) (c : AV), (k.es.take n ++ xs)[i]? = some e → e.cells[j]? = some c →
              ∃ x, (olds ++ news ++ rest)[i * tsz P k.e + j]? = some x ∧ x.oneCell' = true ∧ Rep w ρ Im c x := fun rest i e j c hec hcc => by
            by_cases hin : i < n
            · rw [List.getElem?_append_left (by omega), List.getElem?_take, if_pos hin] at hec
              obtain ⟨v, hv, h1', hr'⟩ := hor i e j c hin hec hcc
              exact ⟨v, by rw [List.append_assoc, List.getElem?_append_left (List.getElem?_eq_some_iff.1 hv).1]; exact hv, h1', hr'⟩
            · rw [List.getElem?_append_right (by omega), hes] at hec
              obtain ⟨v, hv, hr'⟩ := hnr (i - n) e j c hec hcc
              have hlt := (List.getElem?_eq_some_iff.1 hv).1
              have hidx : i * tsz P k.e + j - olds.length = (i - n) * tsz P k.e + j := by
                rw [hol, Nat.sub_mul]; have := Nat.mul_le_mul_right (tsz P k.e) (show n ≤ i by omega); omega
              have hge : olds.length ≤ i * tsz P k.e + j := by rw [hol]; have := Nat.mul_le_mul_right (tsz P k.e) (show n ≤ i by omega); omega
              exact ⟨v, by rw [List.append_assoc, List.getElem?_append_right hge, hidx, List.getElem?_append_left hlt]; exact hv, hn1 v (List.mem_of_getElem? hv), hr'⟩
          have hkl : ∀ e ∈ k.es.take n ++ xs, e.cells.length = tsz P k.e := fun e he => by
            rcases List.mem_append.1 he with he | he
            · rcases hρ : ρ id with _ | b
              · rw [h.inv.nil id k hk hρ] at he; simp at he
              · obtain ⟨_, _, hl, _⟩ := h.inv.blk id k b hk hρ (by omega); rw [← hksz]; exact hl e (List.mem_of_mem_take he)
            · exact hxl e he
          have hklen : (k.es.take n ++ xs).length = n + xs.length := by rw [List.length_append, hes]
          have grow : ∀ old, ∀ cur : List Value, cur = olds ++ news ++ (Builtin.zeroCells z.cells (grownCap w (n + xs.length) old k.e - (n + xs.length))).toList →
              Wit C (upd (killE (isId id) E) d (.own id (tsz P k.e) 0 (n + xs.length))) (updS (killS (isId id) σ) id ((⟨k.e, tsz P k.e, k.es.take n ++ xs⟩ : Blk).kill (isId id)))
                (a.put (some d) (.slice (some ⟨w.heap.size, 0, none⟩) (n + xs.length) (grownCap w (n + xs.length) old k.e))) (w.drew.alloc (.cells cur.toArray k.e)) (updR (killR (isId id) ρ) id (some w.heap.size)) Im M := by
            rintro old cur rfl
            have hsize : (olds ++ news ++ (Builtin.zeroCells z.cells (grownCap w (n + xs.length) old k.e - (n + xs.length))).toList).toArray.size = grownCap w (n + xs.length) old k.e * tsz P k.e := by
              have := hcapg old
              simp only [List.size_toArray, List.length_append, hol, hnl, Array.length_toList, size_zeroCells, hzc, his, ← Nat.add_mul]
              congr 1; omega
            refine h.renew hG hd (w' := w.drew.alloc (.cells (olds ++ news ++ (Builtin.zeroCells z.cells (grownCap w (n + xs.length) old k.e - (n + xs.length))).toList).toArray k.e)) (k := ⟨k.e, tsz P k.e, k.es.take n ++ xs⟩) (g := w.heap.size) ⟨rfl, rfl, rfl, by simp, fun q hq _ => Below.heap_alloc w.drew _ q hq⟩ (.inr (Nat.le_refl _)) (fun q _ hq => Below.heap_alloc w.drew _ q hq) (heap_alloc_new w.drew _) hkl ?_ ?_ (hcapg old) (hcapm old) hsize (Nat.pos_iff_ne_zero.1 hz) (Nat.pos_iff_ne_zero.1 hz) hpn
            · rw [hsize, hklen]; exact Nat.mul_le_mul_right _ (hcapg old)
            · intro i e j c hec hcc
              obtain ⟨v, hv, h1', hr'⟩ := hfill _ i e j c hec hcc
              exact ⟨v, by simpa using hv, h1', hr'⟩
          rcases hs.own0_inv with ⟨hsy, rfl, hρ⟩ | ⟨b, cap', cur, e', hsy, hρ, hncap, hcap, hb, hsz, hnz⟩
          · -- a nil slice
            have ho0 : olds = [] := List.eq_nil_of_length_eq_zero (by simpa using hol)
            have hr := run_append_nil (P := P) w t' ty k.e i z (tel_of he) hi hiz ⟨b', o', none⟩ xs.length cap news (by rw [his]; exact hnl) hnc hm (by omega) (by rw [hib]; simp only [Nat.zero_add] at hby; omega)
            have hg := grow 0 _ rfl
            refine ⟨id, tsz P k.e, 0 + xs.length, _, _, _, updR (killR (isId id) ρ) id (some w.heap.size), hK, exec _ _ _ (by rw [hy, hsy]; exact hr) rfl, ?_⟩
            simp only [ho0, Nat.zero_add, List.nil_append] at hg ⊢
            have ecells : (news ++ (Builtin.zeroCells z.cells (grownCap w xs.length 0 k.e - xs.length)).toList).toArray = news.toArray ++ Builtin.zeroCells z.cells (grownCap w xs.length 0 k.e - xs.length) := by
              apply Array.toList_inj.1; simp
            rw [ecells] at hg
            exact hg
          · obtain ⟨cur2, hb2, hl, hs2, hc2⟩ := h.inv.blk id k b hk hρ (by omega)
            rw [hb] at hb2; cases hb2
            have hoe := hoeq b cur hρ hb
            by_cases hroom : n + xs.length ≤ cap'
            · have hfit : n * i.size + news.length ≤ cur.size := by rw [his, hnl, hsz, ← Nat.add_mul]; exact Nat.mul_le_mul_right _ hroom
              have hr := run_append_room (P := P) w t' ty k.e i (tel_of he) hi b n cap' cur hb ⟨b', o', none⟩ xs.length cap news (by rw [his]; exact hnl) hnc hn1 hroom hfit
              rw [his, ← hoe] at hr
              refine ⟨id, tsz P k.e, n + xs.length, _, _, _, updR (killR (isId id) ρ) id (some b), hK, exec _ _ _ (by rw [hy, hsy]; exact hr) rfl, ?_⟩
              have hsize : (olds ++ news ++ cur.toList.drop (n * tsz P k.e + news.length)).toArray.size = cap' * tsz P k.e := by
                rw [his] at hfit
                simp only [List.size_toArray, List.length_append, hol, List.length_drop, Array.length_toList]; omega
              refine h.renew hG hd (w' := w.setRow b (olds ++ news ++ cur.toList.drop (n * tsz P k.e + news.length)).toArray) (k := ⟨k.e, tsz P k.e, k.es.take n ++ xs⟩) (g := b) ⟨rfl, rfl, rfl, by simp [World.setRow], fun q _ hq => setRow_other w b q _ (fun e => hq ⟨id, by rw [e]; exact hρ⟩)⟩ (.inl ⟨id, by simp [isId], hρ⟩) (fun q hq _ => setRow_other w b q _ hq)
                (setRow_heap w b cur _ k.e _ hb) hkl ?_ ?_ hroom hcap hsize hnz (Nat.pos_iff_ne_zero.1 hz) hpn
              · rw [hsize, hklen]; exact Nat.mul_le_mul_right _ hroom
              · intro i e j c hec hcc
                obtain ⟨v, hv, h1', hr'⟩ := hfill _ i e j c hec hcc
                exact ⟨v, by simpa using hv, h1', hr'⟩
            · have holds : ∀ j v, olds[j]? = some v → w.cell? ((⟨b, 0, none⟩ : Addr).add j) = some v := fun j v hv => by
                rw [add_none, cell_of_row w b _ cur k.e (0, 0) hb]
                rw [hoe, List.getElem?_take] at hv
                split at hv
                · simpa using hv
                · cases hv
              have hr := run_append_grow (P := P) w t' ty k.e i z (tel_of he) hi hiz ⟨b, 0, none⟩ n cap' olds (by rw [his]; exact hol) holds ⟨b', o', none⟩ xs.length cap news (by rw [his]; exact hnl) hnc (by omega) (by omega) (growslice_fits (by omega) (by rw [hib]; exact hby))
              have hg := grow cap' _ rfl
              refine ⟨id, tsz P k.e, n + xs.length, _, _, _, updR (killR (isId id) ρ) id (some w.heap.size), hK, exec _ _ _ (by rw [hy, hsy]; exact hr) rfl, ?_⟩
              have ecells : (olds ++ news ++ (Builtin.zeroCells z.cells (grownCap w (n + xs.length) cap' k.e - (n + xs.length))).toList).toArray = olds.toArray ++ news.toArray ++ Builtin.zeroCells z.cells (grownCap w (n + xs.length) cap' k.e - (n + xs.length)) := by
                apply Array.toList_inj.1; simp
              rw [ecells] at hg
              exact hg
      · exact hv.elim
    · exact hv.elim
  · exact hv.elim

end Go.Vai

/- Every operation that turns nothing. -/
import Derived.Test.YtmiahmpobpokmaaVd2
namespace Go.Vai
open Go.RowKit

variable {P : Program} {w : World} {ρ : Nat → Option Nat} {Im : Nat → Prop} {E : Env} {σ : Store} {a : Act}

theorem slice_run {t e : TypeId} {x : Operand} {lo hi : Option Operand} {r : AV} {n : Nat} (hu : tel P t = some e)
    (hn : lenV (ev E x) = some n) (hb : bound E hi n fun h => bound E lo 0 fun l => slCut P e (ev E x) l h r) (hx : Rep w ρ Im (ev E x) (a.eval x))
    (hhi : ∀ o, hi = some o → Rep w ρ Im (ev E o) (a.eval o)) (hlo : ∀ o, lo = some o → Rep w ρ Im (ev E o) (a.eval o)) :
    ∃ y, (Instr.sliceAt t (a.eval x) (lo.map a.eval) (hi.map a.eval) none).run P w = .ok y w ∧ Rep w ρ Im r y := by
  have hu := tel_of hu
  obtain ⟨h, hb, hh⟩ := bound_sound hb hhi
  obtain ⟨l, hcut, hl⟩ := bound_sound hb hlo
  obtain ⟨ad, n', cap, hy, hn', h1, h2, h3, hz, hrep⟩ := slCut_sound hcut hx
  rw [hn] at hn'; cases hn'
  refine ⟨_, ?_, hrep⟩
  rw [hy]
  have key : (Instr.sliceBounds true n cap (lo.map a.eval) (hi.map a.eval) none).run P w = .ok (l, h, cap) w := by
    unfold Instr.sliceBounds
    rcases hh with ⟨rfl, rfl⟩ | ⟨o, k, rfl, ho⟩ <;> rcases hl with ⟨rfl, rfl⟩ | ⟨o', k', rfl, ho'⟩
    · simp
    · simp [ho', run_sliceBound h1]
    · simp [ho, run_sliceBound (Nat.le_trans h2 h3)]
    · simp [ho, ho', run_sliceBound (Nat.le_trans h2 h3), run_sliceBound h1]
  simp only [Instr.sliceAt, Instr.slice, Sem.run_bind, run_underlying hu w, Result.andThen_ok, key, run_sizeOf' hz w, Sem.run_pure]

theorem sliceS_run {t : TypeId} {x : Operand} {lo hi : Option Operand} {r : AV} {n : Nat} (hu : tstr P t = true)
    (hn : lenV (ev E x) = some n) (hb : bound E hi n fun h => bound E lo 0 fun l => strCut (ev E x) l h r) (hx : Rep w ρ Im (ev E x) (a.eval x))
    (hhi : ∀ o, hi = some o → Rep w ρ Im (ev E o) (a.eval o)) (hlo : ∀ o, lo = some o → Rep w ρ Im (ev E o) (a.eval o)) :
    ∃ y, (Instr.sliceAt t (a.eval x) (lo.map a.eval) (hi.map a.eval) none).run P w = .ok y w ∧ Rep w ρ Im r y := by
  have hu := tstr_of hu
  obtain ⟨h, hb, hh⟩ := bound_sound hb hhi
  obtain ⟨l, hcut, hl⟩ := bound_sound hb hlo
  unfold strCut at hcut
  split at hcut
  · rename_i s he
    obtain ⟨h1, h2, rfl⟩ := hcut
    rw [he] at hx hn
    have hy := hx.v_inv
    simp [lenV] at hn; subst hn
    refine ⟨_, ?_, .im _ _ (.v _)⟩
    rw [hy]
    have key : (Instr.sliceBounds false s.size s.size (lo.map a.eval) (hi.map a.eval) none).run P w = .ok (l, h, s.size) w := by
      unfold Instr.sliceBounds
      rcases hh with ⟨rfl, rfl⟩ | ⟨o, k, rfl, ho⟩ <;> rcases hl with ⟨rfl, rfl⟩ | ⟨o', k', rfl, ho'⟩
      · simp
      · simp [ho', run_sliceBound h1]
      · simp [ho, run_sliceBound h2]
      · simp [ho, ho', run_sliceBound h2, run_sliceBound h1]
    simp [Instr.sliceAt, Instr.slice, Sem.run_bind, run_underlying hu, key]
  · exact hcut.elim

/-- **An operation that turns nothing yields what its account says.** -/
theorem pureV_sound (hinv : Inv w ρ Im σ) (henv : EnvRep w ρ Im E a.tmps) {o : Oper} (hlow : Op.low a.tmps.size o.op = true) {r : AV} (h : pureV P o.op E σ r) :
    ∃ y, (execOp a.eval o).run P w = .ok (.value y) w ∧ Rep w ρ Im r y := by
  have rep : ∀ x, x ∈ o.op.operands → Rep w ρ Im (ev E x) (a.eval x) := fun x hx => ev_rep henv (low_of hlow hx)
  obtain ⟨dst, op, ty, pos, after, guard⟩ := o
  simp only at hlow h rep
  unfold pureV at h
  split at h
  · subst h; exact ⟨_, rfl, rep _ (by simp [Op.operands])⟩
  · subst h; exact ⟨_, rfl, rep _ (by simp [Op.operands])⟩
  · -- pick
    rename_i c x y
    split at h
    · rename_i b hb
      have hc := rep c (by simp [Op.operands])
      rw [hb] at hc
      have hc := hc.v_inv
      subst h
      cases b
      · exact ⟨a.eval y, by simp [execOp, hc, asBool], by simpa using rep y (by simp [Op.operands])⟩
      · exact ⟨a.eval x, by simp [execOp, hc, asBool], by simpa using rep x (by simp [Op.operands])⟩
    · exact h.elim
  · -- load
    rename_i t x
    obtain ⟨cs, j, b, o, ys, hp, hy, hr, h1, hc⟩ := cellsAt_sound hinv h (rep x (by simp [Op.operands]))
    obtain ⟨y, hrun, hrep⟩ := load_sound hp hr h1 hc
    exact ⟨y, by simp [execOp, hy, Instr.loadAt, Instr.sureAddr, hrun], hrep⟩
  · -- nilCheck
    rename_i x
    have hx := rep x (by simp [Op.operands])
    split at h
    · rename_i e j he; rw [he] at hx; subst h
      obtain ⟨b, o, hy, _⟩ := hx.pt_inv
      exact ⟨a.eval x, by simp [execOp, hy], hx⟩
    · rename_i id sz i j he; rw [he] at hx; subst h
      obtain ⟨b, hy, _⟩ := hx.ptr_inv
      exact ⟨a.eval x, by simp [execOp, hy], hx⟩
    · rename_i g cs he; rw [he] at hx; subst h
      obtain ⟨ys, hy, _⟩ := hx.clo_inv
      exact ⟨a.eval x, by simp [execOp, hy], hx⟩
    · exact h.elim
  · -- binOp
    rename_i op t x y t'
    have hx := rep x (by simp [Op.operands])
    have hy := rep y (by simp [Op.operands])
    split at h
    · rename_i k m k' n h1 h2
      rw [h1] at hx; rw [h2] at hy
      have hx := hx.v_inv; have hy := hy.v_inv
      obtain ⟨z, hz, rfl⟩ := binI_sound (P := P) (t := t) h w
      exact ⟨z, by simp [execOp, hx, hy, eqGuard_int, hz], .im _ _ (.v _)⟩
    · rename_i m n h1 h2
      rw [h1] at hx; rw [h2] at hy
      have hx := hx.v_inv; have hy := hy.v_inv
      obtain ⟨z, hz, rfl⟩ := binS_sound (P := P) (t := t) h w
      exact ⟨z, by simp [execOp, hx, hy, eqGuard_string, hz], .im _ _ (.v _)⟩
    · rename_i m n h1 h2
      rw [h1] at hx; rw [h2] at hy
      have hx := hx.v_inv; have hy := hy.v_inv
      have hg : ∀ w, (eqGuard op t x y (.bool m) (.bool n)).run P w = .ok () w := fun w => by unfold eqGuard; cases op <;> rfl
      obtain ⟨hk, h⟩ := h
      have hu : P.underlying t = some .bool := by
        rcases tkind_run hk with ⟨h0, _⟩ | ⟨_, h0⟩ | ⟨h0, _⟩
        · cases h0
        · exact h0
        · cases h0
      have he : ∀ w, (Op.equalIn 10000 t (.bool m) (.bool n)).run P w = .ok (m == n) w := fun w => run_equalIn_bool' w 9999 t m n hu
      rcases h with ⟨rfl, rfl⟩ | ⟨rfl, rfl⟩
      · exact ⟨.bool (m == n), by simp [execOp, hx, hy, hg, binOp, Op.equal, Op.maxDepth, he], .im _ _ (.v _)⟩
      · exact ⟨.bool (!(m == n)), by simp [execOp, hx, hy, hg, binOp, Op.equal, Op.maxDepth, he], .im _ _ (.v _)⟩
    · rename_i cs ds h1 h2
      rw [h1] at hx; rw [h2] at hy
      obtain ⟨xs, hxe, hxl, _, hxr⟩ := hx.agg_inv
      obtain ⟨ys, hye, hyl, _, hyr⟩ := hy.agg_inv
      obtain ⟨ks, hks, b, hb, h⟩ := h
      obtain ⟨g1, g2, g3⟩ := structEq_run (P := P) hks hb ⟨hxl, hxr⟩ ⟨hyl, hyr⟩ op x y
      rcases h with ⟨rfl, rfl⟩ | ⟨rfl, rfl⟩
      · exact ⟨.bool b, by simp only [execOp, hxe, hye, Sem.run_bind, g1, g2, Result.andThen_ok, Sem.run_pure], .im _ _ (.v _)⟩
      · exact ⟨.bool (!b), by simp only [execOp, hxe, hye, Sem.run_bind, g1, g3, Result.andThen_ok, Sem.run_pure], .im _ _ (.v _)⟩
    · rename_i u h1 h2
      rw [h2] at hy
      have hy := hy.v_inv
      obtain ⟨hf, ht, h⟩ := h
      obtain ⟨ad, n, c, hxe⟩ := hx.full hf
      have hu : ∃ e, P.underlying t = some (.slice e) := by
        unfold tel at ht
        split at ht
        · rename_i e he; exact ⟨e, he⟩
        · cases ht
      obtain ⟨e, hu⟩ := hu
      have hg : ∀ w, (eqGuard op t x y (.slice (some ad) n c) (.slice none 0 0)).run P w = .ok () w := fun w => by unfold eqGuard; cases op <;> rfl
      have he : ∀ w, (Op.equalIn 10000 t (.slice (some ad) n c) (.slice none 0 0)).run P w = .ok false w := fun w => by
        have hrun : ∀ (f : TypeDesc → Sem Bool), (underlying t >>= f).run P w = (f (.slice e)).run P w := fun f => by
          simp [Sem.run_bind, underlying, hu]
        unfold Op.equalIn
        rw [hrun]; rfl
      rcases h with ⟨rfl, rfl⟩ | ⟨rfl, rfl⟩
      · exact ⟨.bool false, by simp [execOp, hxe, hy, hg, binOp, Op.equal, Op.maxDepth, he], .im _ _ (.v _)⟩
      · exact ⟨.bool true, by simp [execOp, hxe, hy, hg, binOp, Op.equal, Op.maxDepth, he], .im _ _ (.v _)⟩
    · exact h.elim
  · -- build
    rename_i t parts
    obtain ⟨z, hz, hok, h⟩ := h
    obtain ⟨zs, hzc, hzl, hz1, hzr⟩ := Value.cells_ofC hok
    have hp := pairs_of henv parts.toList fun p hp => low_of hlow (by simp [Op.operands]; exact ⟨p.1, Array.mem_toList_iff.1 hp⟩)
    have hpe : (parts.map fun (i, x) => (i, a.eval x)).toList = parts.toList.map fun p => (p.1, a.eval p.2) := by simp
    rcases h with ⟨fs, hfs, hall, cs, hf, rfl⟩ | ⟨m, e, he, hze, cs, hf, rfl⟩
    · obtain ⟨fa, hu, rfl⟩ := tfld_of hfs
      obtain ⟨ys, hfill, hrep, h1⟩ := fill_sound _ _ _ _ _ hp hf (hzr w ρ Im) hz1
      refine ⟨.agg ys.toArray, ?_, .agg_mk hrep.1 h1 hrep.2⟩
      have hplaces : ∀ l : List Field, (∀ f ∈ l, 0 < tsz P f.type) → (l.mapM fun f => (do pure (f.offset, ← sizeOf f.type) : Sem (Nat × Nat))).run P w = .ok (l.map fun f => (f.offset, tsz P f.type)) w := by
        intro l
        induction l with
        | nil => intro _; simp
        | cons f l ih =>
          intro hl
          simp only [List.mapM_cons, Sem.run_bind, run_sizeOf' (hl f (by simp)) w, Result.andThen_ok, Sem.run_pure, ih (fun g hg => hl g (by simp [hg])), List.map_cons]
      have hpa : (fa.mapM fun f => (do pure (f.offset, ← sizeOf f.type) : Sem (Nat × Nat))).run P w = .ok (fa.toList.map fun f => (f.offset, tsz P f.type)).toArray w := by
        rw [Array.mapM_eq_mapM_toList]
        simp only [map_eq_pure_bind, Sem.run_bind]
        rw [hplaces fa.toList (fun f hf => by
          have := List.all_eq_true.1 hall (f.offset, f.type) (List.mem_map.2 ⟨f, hf, rfl⟩)
          simpa using this)]
        rfl
      have hplace : (fun (i : Nat) => ((fa.toList.map fun f => (f.offset, tsz P f.type)).toArray)[i]?) = (fun i => ((fa.toList.map fun f => (f.offset, f.type))[i]?).map fun (f : Nat × TypeId) => (f.1, tsz P f.2)) := by
        funext i; rw [List.getElem?_toArray, List.getElem?_map, List.getElem?_map]; cases fa.toList[i]? <;> rfl
      simp only [execOp, Instr.build, Sem.run_bind, run_zero hz w, Result.andThen_ok, run_underlying hu w, hpa, hplace, hpe, hzc, hfill, Sem.run_pure]
    · obtain ⟨ys, hfill, hrep, h1⟩ := fill_sound _ _ _ _ _ hp hf (hzr w ρ Im) hz1
      refine ⟨.agg ys.toArray, ?_, .agg_mk hrep.1 h1 hrep.2⟩
      simp only [execOp, Instr.build, Sem.run_bind, run_zero hz w, Result.andThen_ok, run_underlying (tarr_of he) w, run_sizeOf' hze w, hpe, hzc, hfill, Sem.run_pure]
  · -- unOp
    rename_i op t x
    have hx := rep x (by simp [Op.operands])
    split at h
    · rename_i b hb; rw [hb] at hx; have hx := hx.v_inv; subst h
      exact ⟨_, by simp [execOp, hx, Op.unary], .im _ _ (.v _)⟩
    · rename_i k n hb; rw [hb] at hx; have hx := hx.v_inv; subst h
      exact ⟨_, by simp only [execOp, hx, Op.unary, Op.intArith, Sem.run_bind, Sem.run_pure, Result.andThen_ok], .im _ _ (.v _)⟩
    · exact h.elim
  · -- convert
    rename_i src dst x
    have hx := rep x (by simp [Op.operands])
    split at h
    · rename_i k k' n hk hb
      rw [hb] at hx; have hx := hx.v_inv
      obtain ⟨⟨d, hd⟩, rfl⟩ := h
      refine ⟨.int k (k.wrap n), ?_, .im _ _ (.v _)⟩
      have hdst := tint_of hk
      simp only [execOp, hx, convert, Sem.run_bind, run_underlying hd w, run_underlying hdst w, Result.andThen_ok]
      cases d <;> rfl
    · exact h.elim
  · -- makeFunc
    rename_i f first cs
    obtain ⟨rfl, rfl⟩ := h
    have := Rep.clo (w := w) (ρ := ρ) (Im := Im) f (cs.toList.map (ev E)) (cs.toList.map a.eval) (by simp) fun j c y hc hy => by
      rw [List.getElem?_map] at hc hy
      cases hx : cs.toList[j]? with
      | none => simp [hx] at hc
      | some x =>
        simp only [hx, Option.map_some, Option.some.injEq] at hc hy
        subst hc; subst hy
        exact rep x (by simp only [Op.operands, Array.empty_append]; exact Array.mem_toList_iff.1 (List.mem_of_getElem? hx))
    refine ⟨_, ?_, this⟩
    cases cs; simp [execOp, Instr.makeFunc]
  · -- fieldAddr
    rename_i s x f
    obtain ⟨fs, hfs, off, t, hf, hz, h⟩ := h
    obtain ⟨fa, hu, rfl⟩ := tfld_of hfs
    have hx := rep x (by simp [Op.operands])
    rw [List.getElem?_map] at hf
    cases hff : fa.toList[f]? with
    | none => simp [hff] at hf
    | some fl =>
      simp only [hff, Option.map_some, Option.some.injEq, Prod.mk.injEq] at hf
      obtain ⟨rfl, rfl⟩ := hf
      have hff' : fa[f]? = some fl := by simpa using hff
      split at h
      · rename_i e j he; rw [he] at hx; subst h
        obtain ⟨b, o, hy, hall⟩ := hx.pt_inv
        refine ⟨_, ?_, hall (j + fl.offset)⟩
        simp only [execOp, hy, Instr.fieldAt, Sem.run_bind, run_underlying hu w, Result.andThen_ok, hff', Instr.sureAddr, Sem.run_pure, run_fieldPlace hz rfl w, Nat.add_assoc]
      · rename_i id sz i j he; rw [he] at hx; subst h
        obtain ⟨b, hy, hall⟩ := hx.ptr_inv
        refine ⟨_, ?_, hall i (j + fl.offset)⟩
        simp only [execOp, hy, Instr.fieldAt, Sem.run_bind, run_underlying hu w, Result.andThen_ok, hff', Instr.sureAddr, Sem.run_pure, run_fieldPlace hz rfl w, Nat.add_assoc]
      · exact h.elim
  · -- field
    rename_i s x f
    obtain ⟨fs, hfs, off, t, hf, h⟩ := h
    obtain ⟨fa, hu, rfl⟩ := tfld_of hfs
    have hx := rep x (by simp [Op.operands])
    rw [List.getElem?_map] at hf
    cases hff : fa.toList[f]? with
    | none => simp [hff] at hf
    | some fl =>
      simp only [hff, Option.map_some, Option.some.injEq, Prod.mk.injEq] at hf
      obtain ⟨rfl, rfl⟩ := hf
      have hff' : fa[f]? = some fl := by simpa using hff
      split at h
      · rename_i cs he; rw [he] at hx
        obtain ⟨ys, hy, hl, h1, hr⟩ := hx.agg_inv
        obtain ⟨z, hz, hrep⟩ := partOf_sound h ⟨hl, hr⟩ h1
        exact ⟨z, by simp only [execOp, hy, Instr.field, Sem.run_bind, run_underlying hu w, Result.andThen_ok, hff', asAgg, Sem.run_pure, hz], hrep⟩
      · exact h.elim
  · -- indexAddr
    rename_i t x i
    have hx := rep x (by simp [Op.operands])
    have hi := rep i (by simp [Op.operands])
    split at h
    · rename_i k n hn
      rw [hn] at hi
      have hi := hi.v_inv
      rcases h with ⟨e, he, h⟩ | ⟨m, e, he, hz, h0, hlt, h⟩
      · obtain ⟨z, hz, hrep⟩ := slIdx_sound (k := k) he h hx
        exact ⟨z, by simp [execOp, hi, hz], hrep⟩
      · have hu := tarr_of he
        split at h
        · rename_i c j hc; rw [hc] at hx; subst h
          obtain ⟨b, o, hy, hall⟩ := hx.pt_inv
          refine ⟨_, ?_, hall (j + n.toNat * tsz P e)⟩
          simp only [execOp, hi, hy, Instr.indexAt, Sem.run_bind, asInt_run, Result.andThen_ok, run_underlying hu w, Instr.sureAddr, Sem.run_pure]
          rw [if_pos ⟨h0, hlt⟩]
          simp only [Sem.run_bind, run_sizeOf' hz w, Result.andThen_ok, Sem.run_pure, add_none, Nat.add_assoc]
        · rename_i id sz o j hc; rw [hc] at hx; subst h
          obtain ⟨b, hy, hall⟩ := hx.ptr_inv
          refine ⟨_, ?_, hall o (j + n.toNat * tsz P e)⟩
          simp only [execOp, hi, hy, Instr.indexAt, Sem.run_bind, asInt_run, Result.andThen_ok, run_underlying hu w, Instr.sureAddr, Sem.run_pure]
          rw [if_pos ⟨h0, hlt⟩]
          simp only [Sem.run_bind, run_sizeOf' hz w, Result.andThen_ok, Sem.run_pure, add_none, Nat.add_assoc]
        · exact h.elim
    · exact h.elim
  · -- index
    rename_i t x i
    have hx := rep x (by simp [Op.operands])
    have hi := rep i (by simp [Op.operands])
    split at h
    · rename_i k n s hn hs
      rw [hn] at hi; rw [hs] at hx
      have hi := hi.v_inv; have hx := hx.v_inv
      obtain ⟨ht, h0, c, hc, rfl⟩ := h
      refine ⟨_, ?_, .im _ _ (.v _)⟩
      simp only [execOp, hi, hx, Instr.index, Sem.run_bind, asInt_run, Result.andThen_ok, run_underlying (tstr_of ht) w, h0, if_true, hc, Sem.run_pure]
    · rename_i k n cs hn hs
      rw [hn] at hi; rw [hs] at hx
      have hi := hi.v_inv
      obtain ⟨m, e, he, hz, h0, hlt, h⟩ := h
      obtain ⟨ys, hy, hl, h1, hr⟩ := hx.agg_inv
      obtain ⟨z, hzz, hrep⟩ := partOf_sound h ⟨hl, hr⟩ h1
      refine ⟨z, ?_, hrep⟩
      simp only [execOp, hi, hy, Instr.index, Sem.run_bind, asInt_run, Result.andThen_ok, run_underlying (tarr_of he) w]
      rw [if_pos ⟨h0, hlt⟩]
      simp only [Sem.run_bind, run_sizeOf' hz w, Result.andThen_ok, hzz, Sem.run_pure]
    · exact h.elim
  · -- extract
    rename_i x i
    have hx := rep x (by simp [Op.operands])
    split at h
    · rename_i vs hv; rw [hv] at hx
      obtain ⟨ys, hy, hl, hr⟩ := hx.tup_inv
      have hlt : i < ys.length := by rw [← hl]; exact (List.getElem?_eq_some_iff.1 h).1
      refine ⟨ys[i], ?_, hr i r _ h (List.getElem?_eq_getElem hlt)⟩
      simp [execOp, hy, Instr.extract, hlt]
    · exact h.elim
  · -- slice
    rename_i t x lo hi
    have hx := rep x (by simp [Op.operands])
    have hhi : ∀ o, hi = some o → Rep w ρ Im (ev E o) (a.eval o) := fun o ho => rep o (by subst ho; simp [Op.operands])
    have hlo : ∀ o, lo = some o → Rep w ρ Im (ev E o) (a.eval o) := fun o ho => rep o (by subst ho; simp [Op.operands])
    rcases h with ⟨e, he, n, hn, hb⟩ | ⟨ht, n, hn, hb⟩
    · obtain ⟨y, hy, hr⟩ := slice_run he hn hb hx hhi hlo
      exact ⟨y, by simp [execOp, hy], hr⟩
    · obtain ⟨y, hy, hr⟩ := sliceS_run ht hn hb hx hhi hlo
      exact ⟨y, by simp [execOp, hy], hr⟩
  · -- len
    rename_i args argTypes
    split at h
    · rename_i x t hx ht
      have hx' : args = #[x] := by rw [← Array.toArray_toList (xs := args), hx]
      have ht' : argTypes = #[t] := by rw [← Array.toArray_toList (xs := argTypes), ht]
      subst hx'; subst ht'
      have hx := rep x (by simp [Op.operands, Call.operands])
      rcases h with ⟨ht, h⟩ | ⟨ht, h⟩ | ⟨m, e, ht, rfl⟩
      · split at h
        · rename_i s hs; rw [hs] at hx; have hx := hx.v_inv; subst h
          exact ⟨_, by simp [execOp, resolve, invoke, builtin, hx, Builtin.len_, run_underlying (tstr_of ht), goInt], .im _ _ (.v _)⟩
        · exact h.elim
      · obtain ⟨e, he⟩ := Option.isSome_iff_exists.1 ht
        have key : ∀ n ad cap, a.eval x = .slice ad n cap → r = .v (.int .i64 (n : Int)) → ∃ y, (execOp a.eval { dst, op := .call { callee := .builtin .len, args := #[x], argTypes := #[t] }, type := ty, pos, after, guard }).run P w = .ok (.value y) w ∧ Rep w ρ Im r y := by
          rintro n ad cap hy rfl
          exact ⟨_, by simp [execOp, resolve, invoke, builtin, hy, Builtin.len_, run_underlying (tel_of he), goInt], .im _ _ (.v _)⟩
        have hl : ∀ n, lenV (ev E x) = some n → (∀ s, ev E x ≠ .v (.string s)) → ∃ ad cap, a.eval x = .slice ad n cap := fun n hn hs => by
          rcases lenV_sound hn hx with h' | ⟨s, _, _, h'⟩
          · exact h'
          · exact absurd h' (hs s)
        split at h
        · rename_i hh; obtain ⟨ad, cap, hy⟩ := hl _ (by rw [hh]; rfl) (by rw [hh]; simp); exact key _ ad cap hy h
        · rename_i hh; obtain ⟨ad, cap, hy⟩ := hl _ (by rw [hh]; rfl) (by rw [hh]; simp); exact key _ ad cap hy h
        · rename_i hh; obtain ⟨ad, cap, hy⟩ := hl _ (by rw [hh]; rfl) (by rw [hh]; simp); exact key _ ad cap hy h
        · exact h.elim
      · exact ⟨_, by simp [execOp, resolve, invoke, builtin, Builtin.len_, run_underlying (tarr_of ht), goInt], .im _ _ (.v _)⟩
    · exact h.elim
  · -- max
    rename_i args argTypes
    split at h
    · rename_i k m k' n hx
      obtain ⟨l⟩ := args
      obtain ⟨x, y, rfl⟩ : ∃ x y, l = [x, y] := by
        rcases l with _ | ⟨x, _ | ⟨y, _ | ⟨z, l⟩⟩⟩ <;> first | exact ⟨_, _, rfl⟩ | simp at hx
      · simp only [List.map_cons, List.map_nil, List.cons.injEq, and_true] at hx
        obtain ⟨h1, h2⟩ := hx
        have hx := rep x (by simp [Op.operands, Call.operands])
        have hy := rep y (by simp [Op.operands, Call.operands])
        rw [h1] at hx; rw [h2] at hy
        have hx := hx.v_inv; have hy := hy.v_inv
        subst h
        exact ⟨_, by simp [execOp, resolve, invoke, builtin, hx, hy, Builtin.max_, Builtin.max2], .im _ _ (.v _)⟩
    · exact h.elim
  · -- min
    rename_i args argTypes
    split at h
    · rename_i k m k' n hx
      obtain ⟨l⟩ := args
      obtain ⟨x, y, rfl⟩ : ∃ x y, l = [x, y] := by
        rcases l with _ | ⟨x, _ | ⟨y, _ | ⟨z, l⟩⟩⟩ <;> first | exact ⟨_, _, rfl⟩ | simp at hx
      · simp only [List.map_cons, List.map_nil, List.cons.injEq, and_true] at hx
        obtain ⟨h1, h2⟩ := hx
        have hx := rep x (by simp [Op.operands, Call.operands])
        have hy := rep y (by simp [Op.operands, Call.operands])
        rw [h1] at hx; rw [h2] at hy
        have hx := hx.v_inv; have hy := hy.v_inv
        subst h
        exact ⟨_, by simp [execOp, resolve, invoke, builtin, hx, hy, Builtin.min_, Builtin.min2], .im _ _ (.v _)⟩
    · exact h.elim
  · exact h.elim

end Go.Vai

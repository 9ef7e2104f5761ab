/- Stores: sound. -/
import Derived.Test.YtmiahmpobpokmaaVi
namespace Go.Vai
open Go.RowKit

variable {P : Program} {C : Fx} {w : World} {ρ : Nat → Option Nat} {Im : Nat → Prop} {M : Str} {E : Env} {σ : Store} {a : Act}

def setC (e : AV) (j : Nat) (v : AV) : AV := if j = 0 ∧ v.cells.length = e.cells.length then v else .agg (e.cells.take j ++ v.cells ++ e.cells.drop (j + v.cells.length))

theorem setC_cells {e : AV} {j : Nat} {v : AV} (h : j + v.cells.length ≤ e.cells.length) : (setC e j v).cells = e.cells.take j ++ v.cells ++ e.cells.drop (j + v.cells.length) := by
  unfold setC
  split
  · rename_i hc; obtain ⟨rfl, hl⟩ := hc; simp [hl]
  · rfl

def storeV (P : Program) (op : Op) (E : Env) (σ : Store) (K : Nat → Blk → Prop) : Prop :=
  match op with
  | .store t x y => match ev E x with
    | .ptr id sz i j => ∃ k, σ id = some k ∧ k.sz = sz ∧ ∃ e, k.es[i]? = some e ∧ (ev E y).ok = true ∧ (ev E y).cells.length = tsz P t ∧ 0 < tsz P t ∧ j + tsz P t ≤ sz ∧
        K id ⟨k.e, k.sz, k.es.set i (setC e j (ev E y))⟩
    | _ => False
  | _ => False

theorem Wit.turn (hG : GStable C.G) (h : Wit C E σ a w ρ Im M) {id b : Nat} {k k' : Blk} {cur cur' : Array Value} (hk : σ id = some k) (hρ : ρ id = some b) (hb : w.heap[b]? = some (.cells cur k.e (0, 0)))
    (hsz : cur'.size = cur.size) (he : k'.e = k.e) (hl : ∀ e ∈ k'.es, e.cells.length = k'.sz) (hs : k'.es.length * k'.sz ≤ cur'.size)
    (hf : ∀ (i : Nat) (e : AV) (j : Nat) (c : AV), k'.es[i]? = some e → e.cells[j]? = some c → ∃ x, cur'[i * k'.sz + j]? = some x ∧ x.oneCell' = true ∧ Rep w ρ Im c x) (hkz : k'.sz ≠ 0) :
    Wit C E (updS σ id k') a (w.setRow b cur') ρ Im M := by
  have hoth : ∀ q, q ≠ b → (w.setRow b cur').heap[q]? = w.heap[q]? := fun q hq => setRow_other w b q cur' hq
  have hnew : (w.setRow b cur').heap[b]? = some (.cells cur' k.e (0, 0)) := setRow_heap w b cur cur' k.e (0, 0) hb
  have rep : ∀ {v : AV} {y : Value}, Rep w ρ Im v y → Rep (w.setRow b cur') ρ Im v y := fun {v y} hr =>
    Rep.mono (w := w) (w' := w.setRow b cur') (fun _ h => h) (fun q hI => hoth q (fun e => h.inv.apart id b hρ (e ▸ hI))) hr fun i _ => ⟨rfl, fun q hq cur2 e2 hc2 => by
      by_cases e : q = b
      · subst e; rw [hb] at hc2; cases hc2; exact ⟨cur', hnew, hsz⟩
      · exact ⟨cur2, by rw [hoth q e]; exact hc2, rfl⟩⟩
  refine h.step hG ⟨rfl, rfl, rfl, by simp [World.setRow], fun q _ hq => hoth q (fun e => hq ⟨id, by rw [e]; exact hρ⟩)⟩ ?_ (fun t y hy => rep (h.env t y hy)) rfl rfl rfl (fun i _ hi => .inl ⟨i, hi⟩) (fun _ hi => .inl hi) h.pin (fun _ h => h)
  refine ⟨fun i k2 hk2 hr => ?_, fun i k2 q hk2 hr hz => ?_, fun i k2 q hk2 hr hz => ?_, h.inv.inj, fun i q hr hs' => ?_, h.inv.apart, fun q hq => ?_⟩
  · by_cases e : i = id
    · subst e; rw [hρ] at hr; cases hr
    · rw [updS_ne _ _ _ _ e] at hk2; exact h.inv.nil i k2 hk2 hr
  · by_cases e : i = id
    · subst e; simp at hk2; subst hk2; exact absurd hz hkz
    · rw [updS_ne _ _ _ _ e] at hk2
      obtain ⟨ents, clk, hb2, hl2, hc2⟩ := h.inv.map i k2 q hk2 hr hz
      have hqb : q ≠ b := fun e' => e (h.inv.inj i id b (e' ▸ hr) hρ)
      exact ⟨ents, clk, by rw [hoth q hqb]; exact hb2, hl2, fun i m hm => by obtain ⟨v, hv, hr⟩ := hc2 i m hm; exact ⟨v, hv, rep hr⟩⟩
  · by_cases e : i = id
    · subst e; simp at hk2; subst hk2; rw [hρ] at hr; cases hr
      exact ⟨cur', by rw [he]; exact hnew, hl, hs, fun i e j c hec hcc => by obtain ⟨x, hx, h1, hr⟩ := hf i e j c hec hcc; exact ⟨x, hx, h1, rep hr⟩⟩
    · rw [updS_ne _ _ _ _ e] at hk2
      obtain ⟨cur2, hb2, hl2, hs2, hc2⟩ := h.inv.blk i k2 q hk2 hr hz
      have hqb : q ≠ b := fun e' => e (h.inv.inj i id b (e' ▸ hr) hρ)
      exact ⟨cur2, by rw [hoth q hqb]; exact hb2, hl2, hs2, fun i e j c hec hcc => by obtain ⟨x, hx, h1, hr⟩ := hc2 i e j c hec hcc; exact ⟨x, hx, h1, rep hr⟩⟩
  · by_cases e : i = id
    · subst e; simp at hs'
    · rw [updS_ne _ _ _ _ e] at hs'; exact h.inv.live i q hr hs'
  · have := h.inv.low q hq; simpa [World.setRow] using this

/-- **A store into a block of the store.** -/
theorem store_sound (hG : GStable C.G) (h : Wit C E σ a w ρ Im M) {o : Oper} (hlow : Op.low C.N o.op = true)
    {K : Nat → Blk → Prop} (hv : storeV P o.op E σ K) :
    ∃ id k w', K id k ∧ (execOp a.eval o).run P w = .ok .skip w' ∧ Wit C E (updS σ id k) a w' ρ Im M := by
  have rep : ∀ x, x ∈ o.op.operands → Rep w ρ Im (ev E x) (a.eval x) := fun x hx => ev_rep h.env (by rw [h.size]; exact low_of hlow hx)
  obtain ⟨dst, op, ty, pos, after, guard⟩ := o
  simp only at hlow hv rep
  unfold storeV at hv
  split at hv
  · rename_i t x y
    have hx := rep x (by simp [Op.operands])
    have hy := rep y (by simp [Op.operands])
    split at hv
    · rename_i id sz i j hex
      rw [hex] at hx
      obtain ⟨k, hk, rfl, e, he, hok, hyl, hz, hjle, hK⟩ := hv
      obtain ⟨ys, hyc, hyrep, hy1⟩ := cells_rep hok hy
      have hρb : ∃ b, a.eval x = .pointer (some ⟨b, i * k.sz + j, none⟩) ∧ ρ id = some b ∧ k.sz ≠ 0 := by
        generalize a.eval x = ax at hx
        cases hx with
        | im _ _ h => cases h
        | ptr _ _ _ _ b hρ hz => exact ⟨b, rfl, hρ, hz⟩
      obtain ⟨b, hax, hρ, hkz⟩ := hρb
      obtain ⟨cur, hb, hl, hs, hc⟩ := h.inv.blk id k b hk hρ hkz
      have hil : i < k.es.length := (List.getElem?_eq_some_iff.1 he).1
      have hel : e.cells.length = k.sz := hl e (List.mem_of_getElem? he)
      have hysl : ys.length = tsz P t := by rw [← hyrep.1]; exact hyl
      have hile : (i + 1) * k.sz ≤ k.es.length * k.sz := Nat.mul_le_mul_right _ hil
      rw [Nat.succ_mul] at hile
      have hrun := run_storeCells_at (P := P) b (i * k.sz + j) k.e ys 0 cur w hb (by omega) hy1
      simp only [Nat.add_zero] at hrun
      have hcs := setC_cells (e := e) (j := j) (v := ev E y) (by rw [hyl, hel]; exact hjle)
      refine ⟨id, _, w.setRow b (cur.toList.take (i * k.sz + j) ++ ys ++ cur.toList.drop (i * k.sz + j + ys.length)).toArray, hK, ?_, ?_⟩
      · have hsz : (a.eval y).cells.size = tsz P t := by rw [hyc]; simpa using hysl
        have hlist : (a.eval y).cells.toList = ys := by rw [hyc]
        simp only [execOp, hax, Instr.storeAt, Instr.sureAddr, Sem.run_bind, Sem.run_pure, Result.andThen_ok, storeVar, run_sizeOf' hz w, hsz, ne_eq, not_true_eq_false, if_false, hlist, hrun]
      · refine h.turn hG hk hρ hb ?_ rfl ?_ ?_ ?_ hkz
        · simp only [List.size_toArray, List.length_append, List.length_take, List.length_drop, Array.length_toList]; omega
        · intro e' he'
          rcases List.mem_or_eq_of_mem_set he' with h' | h'
          · exact hl e' h'
          · subst h'; rw [hcs]; simp only [List.length_append, List.length_take, List.length_drop, hyl, hel]; omega
        · simp only [List.length_set, List.size_toArray, List.length_append, List.length_take, List.length_drop, Array.length_toList]; omega
        · intro i' e' j' c he' hc'
          show ∃ x, (cur.toList.take (i * k.sz + j) ++ ys ++ cur.toList.drop (i * k.sz + j + ys.length)).toArray[i' * k.sz + j']? = some x ∧ x.oneCell' = true ∧ Rep w ρ Im c x
          simp only [List.getElem?_set] at he'
          split at he'
          · rename_i hii
            subst hii
            simp only [hil, if_true, Option.some.injEq] at he'
            subst he'
            have hj' : j' < k.sz := by
              have := (List.getElem?_eq_some_iff.1 hc').1
              rw [hcs] at this; simp only [List.length_append, List.length_take, List.length_drop, hyl, hel] at this; omega
            rw [hcs] at hc'
            by_cases h1 : j' < j
            · rw [List.append_assoc, List.getElem?_append_left (by simp only [List.length_take]; omega), List.getElem?_take, if_pos h1] at hc'
              obtain ⟨v, hv, hv1, hvr⟩ := hc i e j' c he hc'
              exact ⟨v, by rw [List.getElem?_toArray, List.append_assoc, List.getElem?_append_left (by simp only [List.length_take, Array.length_toList]; omega), List.getElem?_take, if_pos (by omega)]; simpa using hv, hv1, hvr⟩
            · by_cases h2 : j' < j + tsz P t
              · rw [List.getElem?_append_left (by simp only [List.length_append, List.length_take]; omega), List.getElem?_append_right (by simp only [List.length_take]; omega)] at hc'
                have hmin : j' - (e.cells.take j).length = j' - j := by rw [List.length_take, Nat.min_eq_left (by omega)]
                rw [hmin] at hc'
                have hlt : j' - j < ys.length := by omega
                refine ⟨ys[j' - j], ?_, hy1 _ (List.getElem_mem hlt), hyrep.2 _ c _ hc' (List.getElem?_eq_getElem hlt)⟩
                rw [List.getElem?_toArray, List.getElem?_append_left (by simp only [List.length_append, List.length_take, Array.length_toList]; omega), List.getElem?_append_right (by simp only [List.length_take, Array.length_toList]; omega)]
                have : i * k.sz + j' - (cur.toList.take (i * k.sz + j)).length = j' - j := by rw [List.length_take, Array.length_toList, Nat.min_eq_left (by omega)]; omega
                rw [this]; exact List.getElem?_eq_getElem hlt
              · rw [List.getElem?_append_right (by simp only [List.length_append, List.length_take]; omega), List.getElem?_drop] at hc'
                have hidx : j + (ev E y).cells.length + (j' - (e.cells.take j ++ (ev E y).cells).length) = j' := by
                  simp only [List.length_append, List.length_take, hyl, Nat.min_eq_left (show j ≤ e.cells.length by omega)]; omega
                rw [hidx] at hc'
                obtain ⟨v, hv, hv1, hvr⟩ := hc i e j' c he hc'
                refine ⟨v, ?_, hv1, hvr⟩
                rw [List.getElem?_toArray, List.getElem?_append_right (by simp only [List.length_append, List.length_take, Array.length_toList]; omega), List.getElem?_drop]
                have : i * k.sz + j + ys.length + (i * k.sz + j' - (cur.toList.take (i * k.sz + j) ++ ys).length) = i * k.sz + j' := by
                  simp only [List.length_append, List.length_take, Array.length_toList, Nat.min_eq_left (show i * k.sz + j ≤ cur.size by omega)]; omega
                rw [this]; simpa using hv
          · rename_i hii
            obtain ⟨v, hv, hv1, hvr⟩ := hc i' e' j' c he' hc'
            refine ⟨v, ?_, hv1, hvr⟩
            have hj' : j' < k.sz := by rw [← hl e' (List.mem_of_getElem? he')]; exact (List.getElem?_eq_some_iff.1 hc').1
            have hi'l := (List.getElem?_eq_some_iff.1 he').1
            have hb' : i' * k.sz + j' < cur.size := (Array.getElem?_eq_some_iff.1 hv).1
            rw [List.getElem?_toArray]
            rcases Nat.lt_or_ge i' i with hlt | hge
            · have : (i' + 1) * k.sz ≤ i * k.sz := Nat.mul_le_mul_right _ hlt
              rw [Nat.succ_mul] at this
              rw [List.append_assoc, List.getElem?_append_left (by simp only [List.length_take, Array.length_toList]; omega), List.getElem?_take, if_pos (by omega)]
              simpa using hv
            · have : (i + 1) * k.sz ≤ i' * k.sz := Nat.mul_le_mul_right _ (by omega)
              rw [Nat.succ_mul] at this
              rw [List.getElem?_append_right (by simp only [List.length_append, List.length_take, Array.length_toList]; omega), List.getElem?_drop]
              have : i * k.sz + j + ys.length + (i' * k.sz + j' - (cur.toList.take (i * k.sz + j) ++ ys).length) = i' * k.sz + j' := by
                simp only [List.length_append, List.length_take, Array.length_toList, Nat.min_eq_left (show i * k.sz + j ≤ cur.size by omega)]; omega
              rw [this]; simpa using hv
    · exact hv.elim
  · exact hv.elim

end Go.Vai

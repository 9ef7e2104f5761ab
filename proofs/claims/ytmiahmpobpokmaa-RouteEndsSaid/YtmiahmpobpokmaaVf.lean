/- Operations that lay new blocks. -/
import Derived.Test.YtmiahmpobpokmaaVe
import Derived.Laws.MakeOwn
namespace Go.Vai
open Go.RowKit

variable {P : Program} {C : Fx} {w : World} {ρ : Nat → Option Nat} {Im : Nat → Prop} {M : Str} {E : Env} {σ : Store} {a : Act}

/-- Nothing bears this name. -/
def Clean (d : Nat) (E : Env) (σ : Store) : Prop := σ d = none ∧ (∀ t, ¬ Names (E t) d) ∧ ∀ id k, σ id = some k → ∀ e ∈ k.es, ¬ Names e d

theorem clean_kill {p : Nat → Bool} {d : Nat} (h : p d = true) (E : Env) (σ : Store) : Clean d (killE p E) (killS p σ) := by
  refine ⟨by simp [killS, h], fun t hn => ?_, fun id k hk e he hn => ?_⟩
  · have := (AV.kill_names p (E t) d hn).2; rw [h] at this; cases this
  · simp only [killS] at hk
    split at hk
    · cases hk
    · simp only [Option.map_eq_some_iff] at hk
      obtain ⟨k0, h0, rfl⟩ := hk
      unfold Blk.kill at he
      split at he
      · rw [AV.dkL_eq] at he
        obtain ⟨e0, _, rfl⟩ := List.mem_map.1 he
        have := (AV.dk_names p e0 d hn).2; rw [h] at this; cases this
      · rename_i hnn; exact hnn ((AV.namesL_iff _ _).2 ⟨e, he, AV.namesB_of p hn h⟩)

theorem Clean.put {d : Nat} {dst : Option Nat} {v : AV} (h : Clean d E σ) (hv : ¬ Names v d) : Clean d (updO E dst v) σ := by
  refine ⟨h.1, fun t => ?_, h.2.2⟩
  cases dst with
  | none => exact h.2.1 t
  | some x => simp only [updO, upd]; split; exact hv; exact h.2.1 t

theorem Clean.add {d id : Nat} {k : Blk} (h : Clean d E σ) (hne : id ≠ d) (hk : ∀ e ∈ k.es, ¬ Names e d) : Clean d E (updS σ id k) := by
  refine ⟨by rw [updS_ne _ _ _ _ hne.symm]; exact h.1, h.2.1, fun id' k' hk' => ?_⟩
  by_cases e : id' = id
  · subst e; simp at hk'; subst hk'; exact hk
  · rw [updS_ne _ _ _ _ e] at hk'; exact h.2.2 id' k' hk'

/-- What fills a block. -/
def Filled (w : World) (ρ : Nat → Option Nat) (Im : Nat → Prop) (k : Blk) (cur : Array Value) : Prop :=
  (∀ e ∈ k.es, e.cells.length = k.sz) ∧ k.es.length * k.sz ≤ cur.size ∧
    ∀ (i : Nat) (e : AV) (j : Nat) (c : AV), k.es[i]? = some e → e.cells[j]? = some c → ∃ x, cur[i * k.sz + j]? = some x ∧ x.oneCell' = true ∧ Rep w ρ Im c x

theorem EnvRep.later {w' : World} {d : Nat} {ob : Option Nat} {tm : Array Value} (h : EnvRep w ρ Im E tm) (hinv : Inv w ρ Im σ) (hb : ∀ k, k < w.heap.size → w'.heap[k]? = w.heap[k]?) (hn : ∀ t, ¬ Names (E t) d) :
    EnvRep w' (updR ρ d ob) Im E tm := fun t y hy => (h t y hy).later hinv.low (fun _ _ => hinv.lt) hb (hn t)

theorem pin_new (h : Wit C E σ a w ρ Im M) {d : Nat} (hpn : C.pin d = none) {ob : Option Nat} : ∀ id b, C.pin id = some b → updR ρ d ob id = b := fun id b hb => by
  by_cases e : id = d
  · subst e; rw [hpn] at hb; cases hb
  · rw [updR_ne _ _ _ _ e]; exact h.pin id b hb

/-- A new block. -/
theorem Wit.newBlock (hG : GStable C.G) (h : Wit C E σ a w ρ Im M) {d : Nat} (hpn : C.pin d = none) (hcl : Clean d E σ) {k : Blk} {cur : Array Value} (hf : Filled w ρ Im k cur)
    (hkn : ∀ e ∈ k.es, ¬ Names e d) (hz : k.sz ≠ 0) {dst : Option Nat} {v : AV} {y : Value} (hd : ∀ d, dst = some d → d < C.N)
    (hv : Rep (w.alloc (.cells cur k.e)) (updR ρ d (some w.heap.size)) Im v y) :
    Wit C (updO E dst v) (updS σ d k) (a.put dst y) (w.alloc (.cells cur k.e)) (updR ρ d (some w.heap.size)) Im M := by
  have hb : ∀ i, i < w.heap.size → (w.alloc (.cells cur k.e)).heap[i]? = w.heap[i]? := fun i hi => Below.heap_alloc w _ i hi
  refine h.step hG (Ext.alloc _ _ _) ?_ ((h.env.later h.inv hb hcl.2.1).put hv) (put_size ..) (put_defers ..) (updO_ne hd) (fun id b hid => ?_) (fun _ hi => .inl hi) (pin_new h hpn) (fun _ h => h)
  · refine h.inv.fresh (by simp) hb hcl.1 hcl.2.2 (fun _ h => h) (fun _ h => .inl h) ⟨Nat.le_refl _, by simp, fun h0 => absurd h0 hz, fun _ => ⟨cur, World.alloc_heap_new w _, hf.1, hf.2.1, fun i e j c he hc => ?_⟩⟩
    obtain ⟨x, hx, h1, hr⟩ := hf.2.2 i e j c he hc
    exact ⟨x, hx, h1, hr.later h.inv.low (fun _ _ => h.inv.lt) hb (fun hn => hkn e (List.mem_of_getElem? he) (cells_names' (List.mem_of_getElem? hc) hn))⟩
  · by_cases e : id = d
    · subst e; simp at hid; exact .inr (by omega)
    · rw [updR_ne _ _ _ _ e] at hid; exact .inl ⟨id, hid⟩

/-- A slice that is nil, to be appended to. -/
theorem Wit.newNil (hG : GStable C.G) (h : Wit C E σ a w ρ Im M) {d : Nat} (hpn : C.pin d = none) (hcl : Clean d E σ) (e sz : Nat) {dst : Option Nat} {v : AV} {y : Value} (hd : ∀ d, dst = some d → d < C.N)
    (hv : Rep w (updR ρ d none) Im v y) : Wit C (updO E dst v) (updS σ d ⟨e, sz, []⟩) (a.put dst y) w (updR ρ d none) Im M := by
  refine h.step hG (Ext.refl _ _) ?_ ((h.env.later h.inv (fun _ _ => rfl) hcl.2.1).put hv) (put_size ..) (put_defers ..) (updO_ne hd) (fun id b hid => ?_) (fun _ hi => .inl hi) (pin_new h hpn) (fun _ h => h)
  · exact h.inv.fresh (Nat.le_refl _) (fun _ _ => rfl) hcl.1 hcl.2.2 (fun _ h => h) (fun _ h => .inl h) rfl
  · by_cases e : id = d
    · subst e; simp at hid
    · rw [updR_ne _ _ _ _ e] at hid; exact .inl ⟨id, hid⟩

theorem filled_one {t : TypeId} {v : AV} {y : Value} (h : v.ok = true) (hr : Rep w ρ Im v y) {sz : Nat} (hsz : v.cells.length = sz) : Filled w ρ Im ⟨t, sz, [v]⟩ y.cells := by
  obtain ⟨ys, hy, hrep, h1⟩ := cells_rep h hr
  refine ⟨by simp [hsz], ?_, fun i e j c he hc => ?_⟩
  · rw [hy]; simp [← hrep.1, hsz]
  · cases i with
    | succ i => simp at he
    | zero =>
      simp at he; subst he
      have hlt : j < ys.length := by rw [← hrep.1]; exact (List.getElem?_eq_some_iff.1 hc).1
      exact ⟨ys[j], by rw [hy]; simp [hlt], h1 _ (List.getElem_mem hlt), hrep.2 j c _ hc (List.getElem?_eq_getElem hlt)⟩


end Go.Vai

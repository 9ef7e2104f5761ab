/- Stores and appends. -/
import Derived.Test.YtmiahmpobpokmaaVg
namespace Go.Vai
open Go.RowKit

variable {P : Program} {C : Fx} {w : World} {ρ : Nat → Option Nat} {Im : Nat → Prop} {M : Str} {E : Env} {σ : Store} {a : Act}

theorem Rep.carry {w' : World} {d : Nat} {ob : Option Nat} {v : AV} {y : Value} (h : Rep w ρ Im v y)
    (hb : ∀ k, (∃ id, ρ id = some k) ∨ Im k → w'.heap[k]? = w.heap[k]?) (hn : ¬ Names v d) : Rep w' (updR ρ d ob) Im v y :=
  h.mono (fun _ h => h) (fun b hI => hb b (.inr hI)) fun id hid =>
    ⟨updR_ne ρ d ob id (fun e => hn (e ▸ hid)), fun b hr cur e hc => ⟨cur, by rw [hb b (.inl ⟨id, hr⟩)]; exact hc, rfl⟩⟩

/-- A block is taken into the store. -/
theorem Inv.adopt {w' : World} (h : Inv w ρ Im σ) (hs : w.heap.size ≤ w'.heap.size) (hb : ∀ k, (∃ id, ρ id = some k) ∨ Im k → w'.heap[k]? = w.heap[k]?) {d : Nat} {k : Blk} {g : Nat}
    (hcl : Clean d E σ) (hg : ∀ id, ρ id ≠ some g) (hgI : ¬ Im g) (hz : k.sz ≠ 0)
    {cur : Array Value} (hc : w'.heap[g]? = some (.cells cur k.e (0, 0))) (hf : Filled w' (updR ρ d (some g)) Im k cur) :
    Inv w' (updR ρ d (some g)) Im (updS σ d k) where
  nil := fun id k' hk hr => by
    by_cases e : id = d
    · subst e; simp at hr
    · rw [updS_ne _ _ _ _ e] at hk; rw [updR_ne _ _ _ _ e] at hr; exact h.nil id k' hk hr
  map := fun id k' b hk hr hz' => by
    by_cases e : id = d
    · subst e; simp at hk; subst hk; exact absurd hz' hz
    · rw [updS_ne _ _ _ _ e] at hk; rw [updR_ne _ _ _ _ e] at hr
      obtain ⟨ents, clk, hbb, hl, hcc⟩ := h.map id k' b hk hr hz'
      refine ⟨ents, clk, by rw [hb b (.inl ⟨id, hr⟩)]; exact hbb, hl, fun i m hm => ?_⟩
      obtain ⟨v, hv, hr'⟩ := hcc i m hm
      exact ⟨v, hv, hr'.carry hb fun hn => hcl.2.2 id k' hk _ (List.mem_of_getElem? hv) (.tup _ v d (by simp) hn)⟩
  blk := fun id k' b hk hr hz' => by
    by_cases e : id = d
    · subst e; simp at hk hr; subst hk; subst hr; exact ⟨cur, hc, hf⟩
    · rw [updS_ne _ _ _ _ e] at hk; rw [updR_ne _ _ _ _ e] at hr
      obtain ⟨cur', hbb, hl, hs', hcc⟩ := h.blk id k' b hk hr hz'
      refine ⟨cur', by rw [hb b (.inl ⟨id, hr⟩)]; exact hbb, hl, hs', fun i e' j c he hc' => ?_⟩
      obtain ⟨x, hx, h1, hr'⟩ := hcc i e' j c he hc'
      exact ⟨x, hx, h1, hr'.carry hb fun hn => hcl.2.2 id k' hk e' (List.mem_of_getElem? he) (cells_names' (List.mem_of_getElem? hc') hn)⟩
  inj := fun i j b h1 h2 => by
    by_cases e1 : i = d <;> by_cases e2 : j = d
    · rw [e1, e2]
    · subst e1; rw [updR_same] at h1; rw [updR_ne _ _ _ _ e2] at h2; cases h1; exact absurd h2 (hg j)
    · subst e2; rw [updR_same] at h2; rw [updR_ne _ _ _ _ e1] at h1; cases h2; exact absurd h1 (hg i)
    · rw [updR_ne _ _ _ _ e1] at h1; rw [updR_ne _ _ _ _ e2] at h2; exact h.inj i j b h1 h2
  live := fun i b hr hs' => by
    by_cases e : i = d
    · subst e; simp at hs'
    · rw [updR_ne _ _ _ _ e] at hr; rw [updS_ne _ _ _ _ e] at hs'; exact h.live i b hr hs'
  apart := fun i b hr hI => by
    by_cases e : i = d
    · subst e; rw [updR_same] at hr; cases hr; exact hgI hI
    · rw [updR_ne _ _ _ _ e] at hr; exact h.apart i b hr hI
  low := fun b hI => Nat.lt_of_lt_of_le (h.low b hI) hs

/-- Elements of a slice. -/
def srcEls (σ : Store) (x : AV) (K : Nat → List AV → Prop) : Prop :=
  match x with
  | .sl sz es => K sz es
  | .own id sz i n => ∃ k, σ id = some k ∧ k.sz = sz ∧ i + n ≤ k.es.length ∧ K sz ((k.es.drop i).take n)
  | _ => False

/-- What an append yields: whose block, and what it holds. -/
def appV (P : Program) (op : Op) (E : Env) (σ : Store) (K : Nat → Nat → Nat → Blk → Prop) : Prop :=
  match op with
  | .call { callee := .builtin .append, args, argTypes } => match args.toList, argTypes.toList with
    | [s, x], [t, t'] => t' = t ∧ ∃ e, tel P t = some e ∧ 0 < tsz P e ∧ (∃ z, tz P e = some z ∧ (ofC z).ok = true ∧ (ofC z).cells.length = tsz P e) ∧
        match ev E s with
        | .own id sz 0 n => sz = tsz P e ∧ ∃ k, σ id = some k ∧ k.sz = sz ∧ k.e = e ∧ n ≤ k.es.length ∧ srcEls σ (ev E x) fun sz' xs => (xs ≠ [] → sz' = sz) ∧ (∀ e ∈ xs, e.ok = true ∧ e.cells.length = sz) ∧
            (n + xs.length) * tby P e ≤ 140737488355328 ∧ n + xs.length ≤ 4611686018427387904 ∧ K id sz (n + xs.length) ⟨e, sz, k.es.take n ++ xs⟩
        | _ => False
    | _, _ => False
  | _ => False

/-- A slice's cells, flat. -/
theorem src_cells (hinv : Inv w ρ Im σ) {x : AV} {y : Value} {K : Nat → List AV → Prop} (h : srcEls σ x K) (hr : Rep w ρ Im x y) :
    ∃ sz xs ad cap, K sz xs ∧ y = .slice ad xs.length cap ∧ ((xs = [] ∧ (∀ b, ad = some b → True)) ∨ ∃ b o, ad = some ⟨b, o, none⟩ ∧ (∀ e ∈ xs, e.cells.length = sz) ∧
      ∀ (i : Nat) (e : AV) (j : Nat) (c : AV), xs[i]? = some e → e.cells[j]? = some c → ∃ v, w.cell? ⟨b, o + i * sz + j, none⟩ = some v ∧ v.oneCell' = true ∧ Rep w ρ Im c v) := by
  unfold srcEls at h
  split at h
  · rename_i sz es
    cases hr with
    | im _ _ hr =>
      cases hr with
      | slnil _ ad cap => exact ⟨sz, [], ad, cap, h, rfl, .inl ⟨rfl, fun _ _ => trivial⟩⟩
      | sl _ _ b o cap f hIm hcap hl hcc hrep =>
        refine ⟨sz, es, _, cap, h, rfl, .inr ⟨b, o, rfl, hl, fun i e j c he hc => ?_⟩⟩
        have hi := (List.getElem?_eq_some_iff.1 he).1
        have hj : j < sz := by rw [← hl e (List.mem_of_getElem? he)]; exact (List.getElem?_eq_some_iff.1 hc).1
        exact ⟨f i j, (hcc i j hi hj).1, (hcc i j hi hj).2, .im _ _ (hrep i e j c he hc)⟩
  · rename_i id sz i n
    obtain ⟨k, hk, rfl, hle, hK⟩ := h
    have hlen : ((k.es.drop i).take n).length = n := by rw [List.length_take, List.length_drop]; omega
    have go : ∀ b cap (ad : Option Addr), ρ id = some b → k.sz ≠ 0 → (n ≠ 0 → ad = some ⟨b, i * k.sz, none⟩) → y = .slice ad n cap →
        ∃ sz xs ad cap, K sz xs ∧ y = .slice ad xs.length cap ∧ ((xs = [] ∧ (∀ b, ad = some b → True)) ∨ ∃ b o, ad = some ⟨b, o, none⟩ ∧ (∀ e ∈ xs, e.cells.length = sz) ∧
          ∀ (i : Nat) (e : AV) (j : Nat) (c : AV), xs[i]? = some e → e.cells[j]? = some c → ∃ v, w.cell? ⟨b, o + i * sz + j, none⟩ = some v ∧ v.oneCell' = true ∧ Rep w ρ Im c v) := by
      intro b cap ad hρ hz had hy
      refine ⟨k.sz, _, ad, cap, hK, by rw [hlen]; exact hy, ?_⟩
      by_cases hn : n = 0
      · subst hn; exact .inl ⟨by simp, fun _ _ => trivial⟩
      · obtain ⟨cur, hb, hl, hs, hc⟩ := hinv.blk id k b hk hρ hz
        refine .inr ⟨b, i * k.sz, had hn, fun e he => hl e (List.mem_of_mem_drop (List.mem_of_mem_take he)), fun m e j c he hcc => ?_⟩
        rw [List.getElem?_take] at he
        split at he
        · rw [List.getElem?_drop] at he
          obtain ⟨v, hv, h1, hr⟩ := hc (i + m) e j c he hcc
          exact ⟨v, by rw [cell_of_row w b _ cur k.e (0, 0) hb, ← Nat.add_mul]; exact hv, h1, hr⟩
        · cases he
    cases hr with
    | im _ _ hr => cases hr
    | ownNil _ _ hρ => exact ⟨k.sz, [], none, 0, by simpa using hK, rfl, .inl ⟨rfl, fun _ _ => trivial⟩⟩
    | own _ _ _ b cap cur e' hρ hn hcap hb hs hz => exact go b cap _ hρ hz (by simp) rfl
    | ownAt _ _ _ _ b cap ad hi hρ hn ha hz => exact go b cap ad hρ hz ha rfl
  · exact h.elim

/-- The same as one flat list. -/
theorem flat_cells {sz : Nat} {xs : List AV} {b o : Nat} (hl : ∀ e ∈ xs, e.cells.length = sz)
    (h : ∀ (i : Nat) (e : AV) (j : Nat) (c : AV), xs[i]? = some e → e.cells[j]? = some c → ∃ v, w.cell? ⟨b, o + i * sz + j, none⟩ = some v ∧ v.oneCell' = true ∧ Rep w ρ Im c v) :
    ∃ news : List Value, news.length = xs.length * sz ∧ (∀ (j : Nat) (v : Value), news[j]? = some v → w.cell? ((⟨b, o, none⟩ : Addr).add j) = some v) ∧ (∀ v ∈ news, v.oneCell' = true) ∧
      ∀ (i : Nat) (e : AV) (j : Nat) (c : AV), xs[i]? = some e → e.cells[j]? = some c → ∃ v, news[i * sz + j]? = some v ∧ Rep w ρ Im c v := by
  have pos : ∀ k, k < xs.length * sz → 0 < sz := fun k hk => by
    rcases Nat.eq_zero_or_pos sz with h0 | h0
    · subst h0; simp at hk
    · exact h0
  have all : ∀ k, k < xs.length * sz → ∃ v, w.cell? ⟨b, o + k, none⟩ = some v ∧ v.oneCell' = true := fun k hk => by
    have hp := pos k hk
    have hi : k / sz < xs.length := (Nat.div_lt_iff_lt_mul hp).2 hk
    have hj : k % sz < xs[k / sz].cells.length := by rw [hl _ (List.getElem_mem hi)]; exact Nat.mod_lt _ hp
    obtain ⟨v, hv, h1, _⟩ := h (k / sz) xs[k / sz] (k % sz) _ (List.getElem?_eq_getElem hi) (List.getElem?_eq_getElem hj)
    refine ⟨v, ?_, h1⟩
    rw [Nat.add_assoc, Nat.mul_comm, Nat.div_add_mod] at hv; exact hv
  refine ⟨(List.range (xs.length * sz)).map fun k => (w.cell? ⟨b, o + k, none⟩).getD undef, by simp, fun j v hv => ?_, fun v hv => ?_, fun i e j c he hc => ?_⟩
  · have hlt := (List.getElem?_eq_some_iff.1 hv).1
    simp at hlt
    obtain ⟨v', hv', _⟩ := all j hlt
    simp [hlt, hv'] at hv; subst hv; rw [add_none]; exact hv'
  · obtain ⟨k, hk, rfl⟩ := List.mem_map.1 hv
    obtain ⟨v', hv', h1⟩ := all k (by simpa using hk)
    simpa [hv'] using h1
  · obtain ⟨v, hv, _, hr⟩ := h i e j c he hc
    have hi := (List.getElem?_eq_some_iff.1 he).1
    have hj : j < sz := by rw [← hl e (List.mem_of_getElem? he)]; exact (List.getElem?_eq_some_iff.1 hc).1
    have hlt : i * sz + j < xs.length * sz := by
      have : (i + 1) * sz ≤ xs.length * sz := Nat.mul_le_mul_right _ hi
      rw [Nat.succ_mul] at this; omega
    refine ⟨v, ?_, hr⟩
    rw [Nat.add_assoc] at hv
    simp [hlt, hv]

end Go.Vai

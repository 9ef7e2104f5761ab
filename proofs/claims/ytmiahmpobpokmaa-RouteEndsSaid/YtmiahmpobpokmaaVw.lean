/- What arguments read as, stands. -/
import Derived.Test.YtmiahmpobpokmaaVp
import Derived.ProofKit
import Derived.OpenShut
namespace Go.Vai
open Go.RowKit Go.ChangeShapes Go.WideShapes

variable {H : Type} {enc : TypeId × Value → H} {P : Program} {w : World}

abbrev Here (w : World) : Nat → Prop := fun b => b < w.heap.size

/-- Cells stand for a tree's cells. -/
def CellsOK (w : World) (a : AV) (cs : List Value) : Prop :=
  a.cells.length = cs.length ∧ ∀ (j : Nat) (c : AV) (y : Value), a.cells[j]? = some c → cs[j]? = some y → y.oneCell' = true ∧ IRep w (Here w) c y

/-- Cells that read, stand for a tree with 'p'. -/
def Opens (P : Program) (enc : TypeId × Value → H) (w : World) (t : TypeId) (p : AV → Prop) : Prop :=
  (∃ g, tagg P t = some g ∧ ∀ a, p a → if g = true then (∃ cs, a = .agg cs) else a.cells = [a]) ∧
  ∀ base sp held fuel cs x, DataW.trod enc P w base sp held fuel t cs = some x → ∃ a, p a ∧ CellsOK w a cs

theorem Opens.mono {t : TypeId} {p q : AV → Prop} (h : Opens P enc w t p) (hpq : ∀ a, p a → q a) (hqp : ∀ a, q a → p a) : Opens P enc w t q := by
  obtain ⟨⟨g, hg, hs⟩, h⟩ := h
  refine ⟨⟨g, hg, fun a ha => hs a (hqp a ha)⟩, fun base sp held fuel cs x hx => ?_⟩
  obtain ⟨a, ha, hc⟩ := h _ _ _ _ _ _ hx
  exact ⟨a, hpq a ha, hc⟩

theorem cellsOK_v (x : Value) (hx : x.oneCell' = true) : CellsOK w (.v x) [x] :=
  ⟨rfl, fun j c y hc hy => by
    cases j with
    | zero => simp at hc hy; subst hc; subst hy; exact ⟨hx, .v _⟩
    | succ j => simp at hc⟩

theorem opens_int {t : TypeId} {k : IntKind} (ht : P.underlying t = some (.int k)) : Opens P enc w t fun a => ∃ n, (Lit.int k n).wf = true ∧ a = .v (.int k n) := by
  refine ⟨⟨false, by simp [tagg, ht], ?_⟩, fun base sp held fuel cs x h => ?_⟩
  · rintro a ⟨n, _, rfl⟩; rfl
  · cases fuel with
    | zero => simp [DataW.trod] at h
    | succ f =>
      unfold DataW.trod at h
      rw [ht] at h
      split at h <;> simp_all
      rename_i k' n he
      obtain ⟨⟨rfl, hw⟩, _⟩ := h
      exact ⟨_, ⟨n, hw, rfl⟩, cellsOK_v _ rfl⟩

theorem opens_bool {t : TypeId} (ht : P.underlying t = some .bool) : Opens P enc w t fun a => ∃ b, a = .v (.bool b) := by
  refine ⟨⟨false, by simp [tagg, ht], ?_⟩, fun base sp held fuel cs x h => ?_⟩
  · rintro a ⟨n, rfl⟩; rfl
  · cases fuel with
    | zero => simp [DataW.trod] at h
    | succ f =>
      unfold DataW.trod at h
      rw [ht] at h
      have : ∃ b, cs = [.bool b] := by split at h <;> simp_all
      obtain ⟨b, rfl⟩ := this
      exact ⟨.v (.bool b), ⟨b, rfl⟩, cellsOK_v _ rfl⟩

theorem opens_string {t : TypeId} (ht : P.underlying t = some .string) : Opens P enc w t fun a => ∃ s : ByteArray, s.size ≤ maxLen ∧ a = .v (.string s) := by
  refine ⟨⟨false, by simp [tagg, ht], ?_⟩, fun base sp held fuel cs x h => ?_⟩
  · rintro a ⟨n, _, rfl⟩; rfl
  · cases fuel with
    | zero => simp [DataW.trod] at h
    | succ f =>
      unfold DataW.trod at h
      rw [ht] at h
      split at h <;> simp_all
      exact ⟨_, ⟨_, h.1, rfl⟩, cellsOK_v _ rfl⟩

/-- Choose along a list. -/
theorem choose_list {T : Type} {n : Nat} {p : Nat → T → Prop} (h : ∀ i, i < n → ∃ x, p i x) : ∃ l : List T, l.length = n ∧ ∀ i x, l[i]? = some x → p i x := by
  induction n with
  | zero => exact ⟨[], rfl, fun i x hx => by simp at hx⟩
  | succ n ih =>
    obtain ⟨l, hl, hp⟩ := ih fun i hi => h i (by omega)
    obtain ⟨x, hx⟩ := h n (by omega)
    refine ⟨l ++ [x], by simp [hl], fun i y hy => ?_⟩
    by_cases hi : i < l.length
    · rw [List.getElem?_append_left hi] at hy; exact hp i y hy
    · rw [List.getElem?_append_right (by omega)] at hy
      have : i - l.length = 0 := by
        cases hh : i - l.length with
        | zero => rfl
        | succ k => rw [hh] at hy; simp at hy
      rw [this] at hy; simp at hy; subst hy
      have : i = n := by omega
      subst this; exact hx

theorem opens_slice {T : Type} {t e : TypeId} {q : T → Prop} {f : T → AV} {sz : Nat} (ht : P.underlying t = some (.slice e)) (hs : P.cellsOf e = sz) (h0 : 0 < sz) (he : Opens P enc w e fun a => ∃ x, q x ∧ a = f x) :
    Opens P enc w t fun a => ∃ l : List T, l.length ≤ maxLen ∧ (∀ x ∈ l, q x) ∧ a = .sl sz (l.map f) := by
  refine ⟨⟨false, by simp [tagg, ht], ?_⟩, fun base sp held fuel cs x h => ?_⟩
  · rintro a ⟨l, _, _, rfl⟩; rfl
  have single : ∀ (a : Option Addr) (n cap : Nat) (l : List T), IRep w (Here w) (.sl sz (l.map f)) (.slice a n cap) → CellsOK w (.sl sz (l.map f)) [.slice a n cap] := fun a n cap l h =>
    ⟨rfl, fun j c y hc hy => by
      cases j with
      | zero => simp at hc hy; subst hc; subst hy; exact ⟨rfl, h⟩
      | succ j => simp at hc⟩
  rcases DataW.trod_slice ht h with ⟨rfl, _⟩ | ⟨a, len, cap, elems, rest, n, _, rfl, _, _, hl, hm, hlen, hel, _, _⟩
  · exact ⟨_, ⟨[], by simp, by simp, rfl⟩, single _ _ _ [] (.slnil ..)⟩
  · have hi : ∀ i, i < len → ∃ x : T, q x ∧ ∃ cs, (∀ j, j < sz → w.cell? ((a.add (i * sz)).add j) = cs[j]?) ∧ cs.length = sz ∧ CellsOK w (f x) cs := fun i hi => by
      have hE := hel i hi
      rw [hs] at hE
      obtain ⟨y, hy⟩ : ∃ y, elems[i]? = some y := ⟨_, List.getElem?_eq_getElem (by omega)⟩
      rw [hy] at hE
      obtain ⟨cs, hcs, htr⟩ := Option.bind_eq_some_iff.1 hE
      obtain ⟨a', ⟨x, hx, rfl⟩, hc⟩ := he.2 _ _ _ _ _ _ htr
      obtain ⟨_, h1, h2⟩ := World.cells?_some hcs
      exact ⟨x, hx, cs, h2, h1, hc⟩
    obtain ⟨l, hll, hp⟩ := choose_list hi
    refine ⟨_, ⟨l, by omega, fun x hx => ?_, rfl⟩, single _ _ _ l ?_⟩
    · obtain ⟨i, hi⟩ := List.getElem?_of_mem hx; exact (hp i x hi).1
    · by_cases hz : len = 0
      · have : l = [] := List.length_eq_zero_iff.1 (by omega)
        subst this; subst hz; exact .slnil ..
      · -- the first cell shows the address
        obtain ⟨x0, h0x⟩ : ∃ x, l[0]? = some x := ⟨_, List.getElem?_eq_getElem (by omega)⟩
        obtain ⟨_, cs0, hc0, hn0, _⟩ := hp 0 x0 h0x
        have hsp : a.spot = none ∧ a.block < w.heap.size := by
          have h1 := hc0 0 h0
          rw [List.getElem?_eq_getElem (by omega)] at h1
          simp only [Nat.zero_mul, Addr.add, if_true] at h1
          unfold World.cell? at h1
          split at h1
          · rename_i c u fr hh
            refine ⟨?_, (Array.getElem?_eq_some_iff.1 hh).1⟩
            split at h1
            · cases h1
            · rename_i hn; simpa using hn
          · cases h1
        obtain ⟨b, o, spot⟩ := a
        obtain ⟨h1, h2⟩ := hsp
        simp only at h1 h2
        subst h1
        have hadd : ∀ i j, (Addr.add (Addr.add ⟨b, o, none⟩ (i * sz)) j) = ⟨b, o + i * sz + j, none⟩ := fun i j => by
          unfold Addr.add; by_cases hi : i * sz = 0 <;> by_cases hj : j = 0 <;> simp [hi, hj]
        have hcell : ∀ i j x, l[i]? = some x → j < sz → ∃ c, (f x).cells[j]? = some c ∧ ∃ y, w.cell? ⟨b, o + i * sz + j, none⟩ = some y ∧ y.oneCell' = true ∧ IRep w (Here w) c y := fun i j x hx hj => by
          obtain ⟨_, cs, h1, h2, h3, h4⟩ := hp i x hx
          have h1 := h1 j hj
          rw [hadd, List.getElem?_eq_getElem (by omega)] at h1
          refine ⟨_, List.getElem?_eq_getElem (by omega), _, h1, ?_⟩
          exact h4 j _ _ (List.getElem?_eq_getElem (by omega)) (List.getElem?_eq_getElem (by omega))
        have hlm : (l.map f).length = len := by simp [hll]
        rw [← hlm]
        refine .sl sz (l.map f) b o cap (fun i j => (w.cell? ⟨b, o + i * sz + j, none⟩).getD undef) h2 (by omega) (fun e he => ?_) (fun i j hi hj => ?_) fun i e j c hie hjc => ?_
        · obtain ⟨x, hx, rfl⟩ := List.mem_map.1 he
          obtain ⟨i, hi⟩ := List.getElem?_of_mem hx
          obtain ⟨_, cs, _, h2, h3, _⟩ := hp i x hi
          rw [h3, h2]
        · obtain ⟨c, _, y, hy, h1, _⟩ := hcell i j l[i] (List.getElem?_eq_getElem (by simpa using hi)) hj
          rw [hy]; exact ⟨rfl, h1⟩
        · rw [List.getElem?_map] at hie
          obtain ⟨x, hx, rfl⟩ := Option.map_eq_some_iff.1 hie
          have hj : j < sz := by
            obtain ⟨_, cs, _, h2, h3, _⟩ := hp i x hx
            have := (List.getElem?_eq_some_iff.1 hjc).1; omega
          obtain ⟨c', hc', y, hy, _, hr⟩ := hcell i j x hx hj
          rw [hc'] at hjc; cases hjc
          rw [hy]; exact hr

/-- Fields one behind the other. -/
def coverB (P : Program) : Nat → List (Nat × TypeId) → Bool
  | _, [] => true
  | n, f :: r => f.1 == n && coverB P (n + P.cellsOf f.2) r
def sumB (P : Program) : List (Nat × TypeId) → Nat
  | [] => 0
  | f :: r => P.cellsOf f.2 + sumB P r
/-- Each in its kind. -/
def AllP : List (AV → Prop) → List AV → Prop
  | [], [] => True
  | p :: ps, a :: as => p a ∧ AllP ps as
  | _, _ => False
def OpensAll (P : Program) (enc : TypeId × Value → H) (w : World) : List TypeId → List (AV → Prop) → Prop
  | [], [] => True
  | t :: ts, p :: ps => Opens P enc w t p ∧ OpensAll P enc w ts ps
  | _, _ => False

theorem opens_fields : ∀ (fs : List (Nat × TypeId)) (ps : List (AV → Prop)) (n : Nat) (cs : List Value), OpensAll P enc w (fs.map (·.2)) ps → coverB P n fs = true → n + sumB P fs = cs.length →
    (∀ f ∈ fs, ∃ base sp held fuel x, DataW.trod enc P w base sp held fuel f.2 ((cs.drop f.1).take (P.cellsOf f.2)) = some x) →
    ∃ as, AllP ps as ∧ (as.flatMap AV.cells).length = cs.length - n ∧ ∀ (j : Nat) (c : AV) (y : Value), (as.flatMap AV.cells)[j]? = some c → cs[n + j]? = some y → y.oneCell' = true ∧ IRep w (Here w) c y
  | [], [], n, cs, _, _, hl, _ => ⟨[], trivial, by simp [sumB] at hl; simp [hl], fun j c y hc => by simp at hc⟩
  | [], _ :: _, _, _, h, _, _, _ => h.elim
  | _ :: _, [], _, _, h, _, _, _ => h.elim
  | f :: fs, p :: ps, n, cs, h, hcov, hl, hr => by
    obtain ⟨h1, h2⟩ := h
    simp only [coverB, Bool.and_eq_true, beq_iff_eq] at hcov
    obtain ⟨hn, hcov⟩ := hcov
    simp only [sumB] at hl
    obtain ⟨as, ha, hlen, hc⟩ := opens_fields fs ps (n + P.cellsOf f.2) cs h2 hcov (by omega) fun g hg => hr g (by simp [hg])
    obtain ⟨base, sp, held, fuel, x, hx⟩ := hr f (by simp)
    obtain ⟨a, hpa, hal, hac⟩ := h1.2 _ _ _ _ _ _ hx
    rw [hn] at hal hac
    have hal' : a.cells.length = P.cellsOf f.2 := by rw [hal]; simp; omega
    refine ⟨a :: as, ⟨hpa, ha⟩, by simp [hal'] at hlen ⊢; omega, fun j c y hj hy => ?_⟩
    simp only [List.flatMap_cons] at hj
    by_cases hlt : j < a.cells.length
    · rw [List.getElem?_append_left hlt] at hj
      refine hac j c y hj ?_
      rw [List.getElem?_take_of_lt (by omega), List.getElem?_drop]; exact hy
    · rw [List.getElem?_append_right (by omega)] at hj
      refine hc (j - a.cells.length) c y hj ?_
      rw [show n + P.cellsOf f.2 + (j - a.cells.length) = n + j from by omega]; exact hy

theorem opens_struct {t : TypeId} {fs : Array Field} {ps : List (AV → Prop)} (ht : P.underlying t = some (.struct fs)) (hs : OpensAll P enc w (fs.toList.map (·.type)) ps) (hc : coverB P 0 (fs.toList.map fun f => (f.offset, f.type)) = true)
    (hsum : sumB P (fs.toList.map fun f => (f.offset, f.type)) = P.cellsOf t) : Opens P enc w t fun a => ∃ as, AllP ps as ∧ a = .agg (as.flatMap AV.cells) := by
  refine ⟨⟨true, by simp [tagg, ht], ?_⟩, fun base sp held fuel cs x h => ?_⟩
  · rintro a ⟨as, _, rfl⟩; exact ⟨_, rfl⟩
  obtain ⟨xs, n, _, _, hl, hlen, hf⟩ := DataW.trod_struct ht h
  obtain ⟨as, ha, h1, h2⟩ := opens_fields (enc := enc) (w := w) (fs.toList.map fun f => (f.offset, f.type)) ps 0 cs (by simpa [List.map_map, Function.comp_def] using hs) hc (by rw [hsum, hl]; omega) fun f hfm => by
    obtain ⟨g, hg, rfl⟩ := List.mem_map.1 hfm
    obtain ⟨i, hi⟩ := List.getElem?_of_mem hg
    have := hf i g (by simpa using hi)
    rw [List.getElem?_eq_getElem (by have := (List.getElem?_eq_some_iff.1 hi).1; simp at this; omega)] at this
    exact ⟨_, _, _, _, _, this⟩
  exact ⟨_, ⟨as, ha, rfl⟩, by simpa using h1, fun j c y hj hy => h2 j c y hj (by simpa using hy)⟩

theorem opens_array {T : Type} {t e : TypeId} {n : Nat} {q : T → Prop} {f : T → AV} {sz : Nat} (ht : P.underlying t = some (.array n e)) (hs : P.cellsOf e = sz) (hst : P.cellsOf t = n * sz) (he : Opens P enc w e fun a => ∃ x, q x ∧ a = f x) :
    Opens P enc w t fun a => ∃ l : List T, l.length = n ∧ (∀ x ∈ l, q x) ∧ a = .agg (l.flatMap fun x => (f x).cells) := by
  refine ⟨⟨true, by simp [tagg, ht], ?_⟩, fun base sp held fuel cs x h => ?_⟩
  · rintro a ⟨l, _, _, rfl⟩; exact ⟨_, rfl⟩
  obtain ⟨xs, m, _, _, hl, hlen, hf⟩ := DataW.trod_array ht h
  have key : ∀ k, k ≤ n → ∃ l : List T, l.length = k ∧ (∀ x ∈ l, q x) ∧ (l.flatMap fun x => (f x).cells).length = k * sz ∧ ∀ (j : Nat) (c : AV) (y : Value), (l.flatMap fun x => (f x).cells)[j]? = some c → cs[j]? = some y → y.oneCell' = true ∧ IRep w (Here w) c y := by
    intro k
    induction k with
    | zero => intro _; exact ⟨[], rfl, by simp, by simp, fun j c y hc => by simp at hc⟩
    | succ k ih =>
      intro hk
      obtain ⟨l, h1, h2, h3, h4⟩ := ih (by omega)
      have hE := hf k (by omega)
      rw [hs, List.getElem?_eq_getElem (by omega)] at hE
      obtain ⟨a, ⟨x, hx, rfl⟩, hal, hac⟩ := he.2 _ _ _ _ _ _ hE
      have hkm : k * sz + sz ≤ n * sz := by have := Nat.mul_le_mul_right sz hk; rw [Nat.succ_mul] at this; exact this
      have hal' : (f x).cells.length = sz := by rw [hal]; simp; omega
      refine ⟨l ++ [x], by simp [h1], ?_, by simp [h3, hal', Nat.succ_mul], fun j c y hj hy => ?_⟩
      · intro y hy; simp at hy; rcases hy with hy | rfl; exact h2 y hy; exact hx
      · simp only [List.flatMap_append, List.flatMap_cons, List.flatMap_nil, List.append_nil] at hj
        by_cases hlt : j < k * sz
        · rw [List.getElem?_append_left (by omega)] at hj; exact h4 j c y hj hy
        · rw [List.getElem?_append_right (by omega)] at hj
          rw [h3] at hj
          refine hac _ c y hj ?_
          have := (List.getElem?_eq_some_iff.1 hj).1
          rw [List.getElem?_take_of_lt (by omega), List.getElem?_drop, show k * sz + (j - k * sz) = j from by omega]; exact hy
  obtain ⟨l, h1, h2, h3, h4⟩ := key n (Nat.le_refl _)
  exact ⟨_, ⟨l, h1, h2, rfl⟩, by simp [h3, hl, hst], h4⟩

/-- An argument. -/
theorem opens_arg {t : TypeId} {p : AV → Prop} {v : Value} {d : DataW H} {ps : List MemPlace} {base sp held r b} (ho : Opens P enc w t p) (h : DataW.Trod enc P w base sp held t v d ps) (hok : Value.okWide P w r b t v) : ∃ a, p a ∧ IRep w (Here w) a v := by
  obtain ⟨⟨g, hg, hsh⟩, ho⟩ := ho
  obtain ⟨fuel, h⟩ := h
  obtain ⟨a, hp, hl, hc⟩ := ho _ _ _ _ _ _ h
  refine ⟨a, hp, ?_⟩
  have hs := hsh a hp
  unfold tagg at hg
  unfold Value.okWide at hok
  cases g with
  | true =>
    simp only [if_true] at hs
    obtain ⟨cs, rfl⟩ := hs
    have hv : ∃ ys, v = .agg ys := by
      split at hok
      · obtain ⟨ys, rfl, _⟩ := hok; exact ⟨ys, rfl⟩
      · obtain ⟨ys, rfl, _⟩ := hok; exact ⟨ys, rfl⟩
      · split at hg <;> simp_all
    obtain ⟨ys, rfl⟩ := hv
    simp only [Value.cells, AV.cells_agg] at hl hc
    have := IRep.agg (w := w) (Im := Here w) cs ys.toList hl (fun y hy => by
      obtain ⟨j, hj⟩ := List.getElem?_of_mem hy
      obtain ⟨c, hcj⟩ : ∃ c, cs[j]? = some c := ⟨_, List.getElem?_eq_getElem (by have := (List.getElem?_eq_some_iff.1 hj).1; omega)⟩
      exact (hc j c y hcj hj).1) fun j c y hj hy => (hc j c y hj hy).2
    simpa using this
  | false =>
    simp only [Bool.false_eq_true, if_false] at hs
    have hv : v.cells = #[v] := by
      cases v with
      | agg ys =>
        exfalso
        split at hok
        · simp_all
        · simp_all
        · unfold Cell.okWide at hok
          split at hok <;> simp_all [Cell.ok]
      | _ => rfl
    rw [hv] at hl hc
    rw [hs] at hl hc
    exact (hc 0 a v rfl rfl).2

theorem opens_args : ∀ {ts : List TypeId} {ps : List (AV → Prop)} {vs : List Value} {ds : List (DataW H)} {p : List MemPlace} {base sp held r b}, OpensAll P enc w ts ps → DataW.TrodAll enc P w base sp held ts vs ds p →
    (∀ (j : Nat) t v, ts[j]? = some t → vs[j]? = some v → Value.okWide P w r b t v) → ∃ as, AllP ps as ∧ IReps w (Here w) as vs
  | [], [], vs, ds, p, base, sp, held, r, b, _, h, _ => by
    obtain ⟨rfl, _, _⟩ := trodAll_nil h
    exact ⟨[], trivial, rfl, fun j c y hc => by simp at hc⟩
  | [], _ :: _, _, _, _, _, _, _, _, _, h, _, _ => h.elim
  | _ :: _, [], _, _, _, _, _, _, _, _, h, _, _ => h.elim
  | t :: ts, q :: ps, vs, ds, p, base, sp, held, r, b, ho, h, hok => by
    obtain ⟨v, vs', d, ds', p', q', rfl, rfl, rfl, h1, h2⟩ := trodAll_cons h
    obtain ⟨a, ha, hr⟩ := opens_arg ho.1 h1 (hok 0 t v rfl rfl)
    obtain ⟨as, has, hl, hrs⟩ := opens_args ho.2 h2 fun j t v hj hv => hok (j + 1) t v (by simpa using hj) (by simpa using hv)
    refine ⟨a :: as, ⟨ha, has⟩, by simp [hl], fun j c y hc hy => ?_⟩
    cases j with
    | zero => simp at hc hy; subst hc; subst hy; exact hr
    | succ j => exact hrs j c y (by simpa using hc) (by simpa using hy)

/-- What was read, reads so still. -/
theorem trodAll_still (hl : laidOutB P = true) {W W' : World} (hb : Below W.heap.size W W') : ∀ {ts : List TypeId} {vs : List Value} {ds : List (DataW H)} {p : List MemPlace}, (∀ t ∈ ts, P.readableRec t = true ∧ t < P.types.size) →
    (∀ x ∈ p, x.block < W.heap.size) → DataW.TrodAll enc P W 0 (fun _ => true) true ts vs ds p → DataW.TrodAll enc P W' 0 (fun b => decide (b < W.heap.size)) true ts vs ds p
  | [], vs, ds, p, _, _, h => by
    obtain ⟨rfl, rfl, rfl⟩ := trodAll_nil h
    rfl
  | t :: ts, vs, ds, p, hr, hp, h => by
    obtain ⟨v, vs', d, ds', p', q', rfl, rfl, rfl, h1, h2⟩ := trodAll_cons h
    exact ⟨p', q', Below.trod hl (hr t (by simp)).1 (hr t (by simp)).2 h1 hb fun x hx => hp x (by simp [hx]), trodAll_still hl hb (fun t ht => hr t (by simp [ht])) (fun x hx => hp x (by simp [hx])) h2, rfl⟩

end Go.Vai

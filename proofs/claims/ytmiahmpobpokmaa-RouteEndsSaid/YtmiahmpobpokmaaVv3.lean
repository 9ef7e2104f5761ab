/- A range over such a function: sound. -/
import Derived.Test.YtmiahmpobpokmaaVv2
namespace Go.Vai
open Go.RowKit

variable {P : Program} {C : Fx} {w w' : World} {ρ : Nat → Option Nat} {Im : Nat → Prop} {M : Str} {E : Env} {σ : Store} {a : Act}

/-- The words of a round. -/
def spR (S : Sp) (b2 : Nat) (nm0 : Nat → Bool) : Sp := { P := S.P, N := S.N, b := b2, pin := nm0, rd := true, yl := 0, Y := fun _ _ _ => False }

/-- How a round ends. -/
def rQ (nm0 : Nat → Bool) (Q : Exit → Env → Store → Prop) (E0 : Env) (I : Store → Prop) : Exit → Env → Store → Prop
  | .normal => fun _ σ => ∃ p : Nat → Bool, (∀ id, nm0 id = true → p id = false) ∧ I (killS p σ)
  | .ret => fun _ σ => ∃ p : Nat → Bool, (∀ id, nm0 id = true → p id = false) ∧ Q .ret E0 (killS p σ)
  | .exit i => fun _ σ => ∃ p : Nat → Bool, (∀ id, nm0 id = true → p id = false) ∧ Q (.exit i) E0 (killS p σ)
  | _ => fun _ _ => False

def failQ : Exit → Env → Store → Prop := fun _ _ _ => False

def only (q : Nat → Bool) (σ : Store) : Store := fun id => if q id then σ id else none

theorem Inv.only {q : Nat → Bool} (h : Inv w ρ Im σ) (hq : ∀ id k, σ id = some k → q id = true → AV.namesL (fun i => !q i) k.es = false) : Inv w (killR (fun i => !q i) ρ) Im (Vai.only q σ) where
  nil := fun i k hk hr => by
    simp only [Vai.only] at hk; split at hk
    · rename_i hqi; rw [killR_of ρ (by simp [hqi])] at hr; exact h.nil i k hk hr
    · cases hk
  map := fun i k b hk hr hz => by
    simp only [Vai.only] at hk; split at hk
    · rename_i hqi
      rw [killR_of ρ (by simp [hqi])] at hr
      obtain ⟨ents, clk, hb, hl, hc⟩ := h.map i k b hk hr hz
      refine ⟨ents, clk, hb, hl, fun j m hm => ?_⟩
      obtain ⟨v, hv, hrv⟩ := hc j m hm
      refine ⟨v, hv, hrv.killR fun id hid => ?_⟩
      cases hp : (!q id) with
      | false => rfl
      | true =>
        have := (AV.namesL_iff (fun i => !q i) k.es).2 ⟨_, List.mem_of_getElem? hv, AV.namesB_of (fun i => !q i) (.tup _ v id (by simp) hid) hp⟩
        rw [hq i k hk hqi] at this; cases this
    · cases hk
  blk := fun i k b hk hr hz => by
    simp only [Vai.only] at hk; split at hk
    · rename_i hqi
      rw [killR_of ρ (by simp [hqi])] at hr
      obtain ⟨cur, hb, hl, hs, hc⟩ := h.blk i k b hk hr hz
      refine ⟨cur, hb, hl, hs, fun i' e j c he hcc => ?_⟩
      obtain ⟨x, hx, h1, hrx⟩ := hc i' e j c he hcc
      refine ⟨x, hx, h1, hrx.killR fun id hid => ?_⟩
      cases hp : (!q id) with
      | false => rfl
      | true =>
        have := (AV.namesL_iff (fun i => !q i) k.es).2 ⟨e, List.mem_of_getElem? he, AV.namesB_of (fun i => !q i) (cells_names (List.mem_of_getElem? hcc) hid) hp⟩
        rw [hq i k hk hqi] at this; cases this
    · cases hk
  inj := fun i j b h1 h2 => h.inj i j b (killR_some h1).2 (killR_some h2).2
  live := fun i b hr hs => by
    obtain ⟨hp, hr⟩ := killR_some hr
    simp only [Vai.only] at hs
    rw [if_pos (by simpa using hp)] at hs
    exact h.live i b hr hs
  apart := fun i b hr => h.apart i b (killR_some hr).2
  low := h.low

theorem Reps.only {q : Nat → Bool} {vs : List AV} {ys : List Value} (h : Reps w ρ Im vs ys) (hq : AV.namesL (fun i => !q i) vs = false) : Reps w (killR (fun i => !q i) ρ) Im vs ys :=
  ⟨h.1, fun j c y hc hy => (h.2 j c y hc hy).killR fun id hid => by
    cases hp : (!q id) with
    | false => rfl
    | true =>
      have := (AV.namesL_iff (fun i => !q i) vs).2 ⟨c, List.mem_of_getElem? hc, AV.namesB_of (fun i => !q i) hid hp⟩
      rw [hq] at this; cases this⟩

/-- What may be known of a caller in his loop. -/
structure InLoop (C : Fx) (Q : Exit → Env → Store → Prop) (I : List (List AV) → Store → Prop) (E0 : Env) (a : Act) (l n lo : Nat) (r0 : Loop) (xs : List (List AV)) (s : Bool) (M' : Str) (w : World)
    (σ : Store) (ρ : Nat → Option Nat) (Im : Nat → Prop) (M : Str) (r : Loop) : Prop where
  len : ∀ x ∈ xs, x.length = n
  late : lo ≤ w.heap.size
  core : Core C E0 σ a w ρ Im M
  lrec : w.heap[l]? = some (.loop r)
  same : r = { r0 with state := r.state, pending := r.pending }
  lρ : ∀ id, ρ id ≠ some l
  lI : ¬ Im l
  lM : ¬ M.m l
  lb : ¬ C.book a l
  cov : ∀ b, (∃ id, ρ id = some b) ∨ M.m b ∨ b = l ∨ C.book a b → M'.m b
  covI : ∀ b, Im b → M'.m b ∨ M'.j b
  st : (s = false ∧ r.state = .ready ∧ r.pending = none ∧ I xs σ) ∨ (s = true ∧ r.state = .done ∧ ((r.pending = some .ret ∧ Q .ret E0 σ) ∨ ∃ i, r.pending = some (.exit i) ∧ Q (.exit i) E0 σ))

theorem book_none {C : Fx} (h : C.rd = none) (a : Act) (b : Nat) : C.book a b ↔ stamp b ∈ a.defers := by simp [Fx.book, h]

/-- One round. -/
theorem round_sound {S : Sp} {ps : Array Tmp} {as body : Code} {Q : Exit → Env → Store → Prop} (H : Holds S C) (hrd : C.rd = none) (hoA : codeOK S.P S.N as = true) (hoB : codeOK S.P S.N body = true) (hps : ∀ p ∈ ps.toList, p < S.N)
    {nm0 : Nat → Bool} {b2 : Nat} (hnm : ∀ id, S.pin id = true → nm0 id = true) (hb2 : ∀ id, nm0 id = true → id / 16 < b2 ∨ b2 + 100000 ≤ id / 16) {I : List (List AV) → Store → Prop} {E0 : Env} (hE0 : ∀ t, (E0 t).ownB = false ∧ ∀ id, Names (E0 t) id → nm0 id = true)
    (hround : ∀ x rest σ, I (x :: rest) σ → awp (spR S b2 nm0) as (thenQ (awp (spR S b2 nm0) body (rQ nm0 Q E0 (I rest))) failQ) (setPs E0 ps.toList x) σ)
    {l : Nat} {r0 : Loop} (hr0 : r0.params = ps ∧ r0.assign = as ∧ r0.body = body ∧ r0.tmps = a.tmps) (hl : C.w0.heap.size ≤ l) {wc : World} (hwc : C.w0.heap.size ≤ wc.heap.size) (hImc : ∀ b, Im b → C.Im0 b ∨ C.w0.heap.size ≤ b) (hlc : l < wc.heap.size) (hbc : ∀ b, C.book a b → b < wc.heap.size) :
    Answers S.P l (fun b => Im b ∨ wc.heap.size ≤ b) fun xs s M' w => ∃ σ ρ Im M r, InLoop C Q I E0 a l ps.size wc.heap.size r0 xs s M' w σ ρ Im M r := by
  rintro x rest M1 w1 Im1 vs1 ⟨σ, ρ, Ic, M, r, h⟩ hI1 hM1 hJ1 hL1 hvs n
  rcases h.st with ⟨_, hst, hpd, hinv⟩ | ⟨hs, _⟩
  rotate_left
  · cases hs
  have hrr : r = { r0 with state := .ready, pending := none } := by rw [h.same, hst, hpd]
  have hlenx : x.length = ps.size := h.len x (by simp)
  have hyield := run_yield (P := S.P) (args := vs1.toArray) h.lrec (by rw [hrr]; simp only [hr0.1, List.size_toArray, ← hvs.1, hlenx])
  have hf : ∀ (f : Array Value → Tmp × Value → Array Value) (t0 : Array Value), (ps.zip vs1.toArray).foldl f t0 = (ps.toList.zip vs1).foldl f t0 := fun f t0 => by
    rw [← Array.foldl_toList]; simp
  have htm : r.tmps = a.tmps := by rw [hrr]; exact hr0.2.2.2
  have hpar : r.params = ps := by rw [hrr]; exact hr0.1
  have has : r.assign = as := by rw [hrr]; exact hr0.2.1
  have hbo : r.body = body := by rw [hrr]; exact hr0.2.2.1
  rw [hpar, htm, has, hbo, hf] at hyield
  -- the round's activation
  have Im2 : ∀ b, Ic b ∨ Im1 b → b < w1.heap.size := fun b hb => by
    rcases hb with hb | hb
    · exact h.core.inv.low b hb
    · exact (hI1 b hb).1
  have dis : ∀ b, ((∃ id, ρ id = some b) ∨ M.m b ∨ b = l ∨ C.book a b) → ¬ (Ic b ∨ Im1 b) := fun b hb hI => by
    rcases hI with hI | hI
    · rcases hb with ⟨id, hid⟩ | hb | hb | hb
      · exact h.core.inv.apart id b hid hI
      · exact (h.core.ms b hb).2.2.1 hI
      · subst hb; exact h.lI hI
      · exact (h.core.bk b hb).2.1 hI
    · exact (hI1 b hI).2 (h.cov b hb)
  have hin2 : Inv w1 ρ (fun b => Ic b ∨ Im1 b) σ := by
    have rep : ∀ {v : AV} {y : Value}, Rep w1 ρ Ic v y → Rep w1 ρ (fun b => Ic b ∨ Im1 b) v y := fun {v y} hr => Rep.mono (fun _ h => .inl h) (fun _ _ => rfl) hr fun i _ => ⟨rfl, fun b _ cur _ hb => ⟨cur, hb, rfl⟩⟩
    exact ⟨h.core.inv.nil, fun i k b hk hi hz => by
        obtain ⟨ents, clk, hbb, hl, hc⟩ := h.core.inv.map i k b hk hi hz
        exact ⟨ents, clk, hbb, hl, fun i m hm => by obtain ⟨v, hv, hr⟩ := hc i m hm; exact ⟨v, hv, rep hr⟩⟩,
      fun i k b hk hi hz => by
        obtain ⟨cur, hbb, hl, hs, hc⟩ := h.core.inv.blk i k b hk hi hz
        exact ⟨cur, hbb, hl, hs, fun i e j c he hcc => by obtain ⟨v, hv, h1, hr⟩ := hc i e j c he hcc; exact ⟨v, hv, h1, rep hr⟩⟩,
      h.core.inv.inj, h.core.inv.live, fun i b hi => dis b (.inl ⟨i, hi⟩), Im2⟩
  have henv0 : EnvRep w1 ρ (fun b => Ic b ∨ Im1 b) E0 a.tmps := fun t y hy => Rep.mono (fun _ h => .inl h) (fun _ _ => rfl) (h.core.env t y hy) fun i _ => ⟨rfl, fun b _ cur _ hb => ⟨cur, hb, rfl⟩⟩
  have hvs2 : IReps w1 (fun b => Ic b ∨ Im1 b) x vs1 := ⟨hvs.1, fun j c y hc hy => (hvs.2 j c y hc hy).mono (fun _ h => .inr h) (fun _ _ => rfl)⟩
  obtain ⟨henv2, hsz2⟩ := setPs_rep (N := C.N) ps.toList x vs1 E0 a.tmps henv0 hvs2 h.core.size
  let mk : LoopState → Fx := fun st => { w0 := w1, X0 := fun b => (∃ id, ρ id = some b) ∨ M.m b ∨ b = l, Im0 := fun b => Ic b ∨ Im1 b, G := fun g M' w => g = E0 C.N ∧ M' = M ∧ C.G g M' w, N := C.N, rd := some (l, { r with state := st }), pin := fun id => if nm0 id then some (ρ id) else none, J0 := fun b => Ic b ∨ Im1 b }
  have HR : ∀ st, Holds (spR S b2 nm0) (mk st) := fun st => by
    refine ⟨H.N, ?_, fun _ _ _ hY => hY.elim, H.mo, fun id b hp => ?_, hb2, H.big, fun h => by cases h⟩
    · rintro g M' w w' ⟨h1, h2, h3⟩ hb hs ho ht hout; exact ⟨h1, h2, H.G _ _ _ _ h3 hb hs ho ht hout⟩
    · simp only [mk] at hp
      cases hn : nm0 id with
      | true => exact hn
      | false => simp [hn] at hp
  have hEN : setPs E0 ps.toList x C.N = E0 C.N := setPs_out ps.toList x E0 fun p hp => by rw [← H.N]; exact hps p hp
  have W0 : Wit (mk .ready) (setPs E0 ps.toList x) σ { tmps := (ps.toList.zip vs1).foldl (fun tm (t, v) => tm.setIfInBounds t v) a.tmps, defers := [] } w1 ρ (fun b => Ic b ∨ Im1 b) M := by
    refine ⟨hin2, henv2, hsz2, Ext.refl _ _, fun id b hi => .inl (.inl ⟨id, hi⟩), fun b hb => .inl hb, fun p => ?_, ?_, fun b hb => .inl (h.core.js b hb), fun b hb => ?_, fun l' r' hr => ?_, .nil, fun d hd => (by cases hd), fun b hb => ?_, fun id ob hp => ?_, fun b hb => hb⟩
    · show AV.namesB p (setPs E0 ps.toList x C.N) = false
      rw [hEN]; exact h.core.gh p
    · show setPs E0 ps.toList x C.N = E0 C.N ∧ _
      exact ⟨hEN, rfl, by rw [hEN]; exact h.core.g⟩
    · obtain ⟨h1, h2, h3, _⟩ := h.core.ms b hb
      exact ⟨h1, h2, dis b (.inr (.inl hb)), .inl (.inr (.inl hb))⟩
    · simp only [mk, Option.some.injEq, Prod.mk.injEq] at hr
      obtain ⟨rfl, rfl⟩ := hr
      rw [h.lrec, ← hst]
    · rcases hb with ⟨r', hr'⟩ | hd
      · simp only [mk, Option.some.injEq, Prod.mk.injEq] at hr'
        obtain ⟨rfl, _⟩ := hr'
        exact ⟨h.lρ, dis _ (.inr (.inr (.inl rfl))), h.lM⟩
      · cases hd
    · simp only [mk] at hp
      cases hn : nm0 id with
      | true => simp [hn] at hp; exact hp
      | false => simp [hn] at hp
  refine ⟨_, _, _, _, hyield, roundIn_of_wpIn trivial ?_⟩
  rw [FW_round]
  have hrdl : ∀ st, (mk st).rdl = some l := fun st => rfl
  -- what a round leaves
  have leave : ∀ (E' : Env) (σ' : Store) (a' : Act) (w3 : World) (p : Nat → Bool) (jump : Option Code), (∀ id, nm0 id = true → p id = false) → St (mk .busy) E' σ' a' w3 →
      ((jump = none ∧ I rest (killS p σ')) ∨ (jump = some .ret ∧ Q .ret E0 (killS p σ')) ∨ ∃ i, jump = some (.exit i) ∧ Q (.exit i) E0 (killS p σ')) →
      ∃ v w4, (Instr.endRound l jump).run S.P w3 = .ok v w4 ∧ ∃ b M', Ending.returned v = .returned (.bool b) ∧ (∃ σ ρ Im M r, InLoop C Q I E0 a l ps.size wc.heap.size r0 rest (!b) M' w4 σ ρ Im M r) ∧
        (∀ k, M'.m k → k < w4.heap.size ∧ (M1.m k ∨ w1.heap.size ≤ k)) ∧ (∀ k, M'.j k → Im1 k) ∧ Ext w1 M1.m w4 := by
    rintro E' σ' a' w3 p jump hp ⟨ρ2, I2, M2, hw⟩ hj
    obtain ⟨hg1, rfl, hg3⟩ := hw.g
    have hrec3 : w3.heap[l]? = some (.loop { r with state := .busy }) := hw.rd l _ rfl
    refine ⟨_, _, run_endRound jump hrec3, jump.isNone, ⟨fun b => (∃ id, killR p ρ2 id = some b) ∨ M2.m b ∨ b = l ∨ C.book a b ∨ (I2 b ∧ ¬ Im1 b), fun b => I2 b ∧ Im1 b⟩, rfl, ?_, ?_, fun k hk => hk.2, ?_⟩
    · -- the state anew
      have hl2 : ∀ id, ρ2 id ≠ some l := (hw.bk l (.inl ⟨_, rfl⟩)).1
      have hlI2 : ¬ I2 l := (hw.bk l (.inl ⟨_, rfl⟩)).2.1
      have hoth : ∀ (o : Obj) k, k ≠ l → (w3.putObj l o).heap[k]? = w3.heap[k]? := fun o k hk => World.putObj_heap_other hk
      have old : ∀ b, b < w1.heap.size → (∀ id, ρ id ≠ some b) → ¬ M2.m b → b ≠ l → w3.heap[b]? = w1.heap[b]? := fun b hlt h1 h2 h3 => hw.ext.block b hlt fun hx => by
        rcases hx with ⟨id, hid⟩ | hx | hx
        · exact h1 id hid
        · exact h2 hx
        · exact h3 hx
      have fromρ : ∀ id b, ρ2 id = some b → (∃ id', ρ id' = some b) ∨ M2.m b ∨ b = l ∨ w1.heap.size ≤ b := fun id b hi => by
        rcases hw.rng id b hi with (⟨id', h'⟩ | h' | h') | h'
        · exact .inl ⟨id', h'⟩
        · exact .inr (.inl h')
        · exact .inr (.inr (.inl h'))
        · exact .inr (.inr (.inr h'))
      have book1 : ∀ b, C.book a b → b < w1.heap.size := fun b hb => h.core.bklt hb
      have bookne : ∀ b, C.book a b → b ≠ l := fun b hb e => h.lb (e ▸ hb)
      have bookw : ∀ b, C.book a b → w3.heap[b]? = w1.heap[b]? := fun b hb => old b (book1 b hb) (h.core.bk b hb).1 (h.core.bk b hb).2.2 (bookne b hb)
      have Iold : ∀ b, Ic b → w3.heap[b]? = w1.heap[b]? := fun b hb => old b (h.core.inv.low b hb) (fun id hid => h.core.inv.apart id b hid hb) (fun hm => (h.core.ms b hm).2.2.1 hb) (fun e => h.lI (e ▸ hb))
      have bkI : ∀ b, C.book a b → ¬ I2 b := fun b hb hI => by
        rcases hw.im b hI with h' | h'
        · exact dis b (.inr (.inr (.inr hb))) h'
        · exact absurd (book1 b hb) (Nat.not_lt.2 h')
      have bkρ : ∀ b, C.book a b → ∀ id, ρ2 id ≠ some b := fun b hb id hid => by
        rcases fromρ id b hid with ⟨id', h'⟩ | h' | h' | h'
        · exact (h.core.bk b hb).1 id' h'
        · exact (h.core.bk b hb).2.2 h'
        · exact bookne b hb h'
        · exact absurd (book1 b hb) (Nat.not_lt.2 h')
      have pinned : ∀ id, nm0 id = true → ρ2 id = ρ id := fun id hid => hw.pin id (ρ id) (by simp [mk, hid])
      have hN : E' C.N = E0 C.N := hg1
      have hks : (killS p σ') = killS p σ' := rfl
      have C3 : Core C E0 (killS p σ') a w3 (killR p ρ2) I2 M2 := by
        refine ⟨hw.inv.kill p, fun t y hy => ?_, h.core.size, fun id b hi => ?_, fun b hb => ?_, h.core.gh, ?_, fun b hb => hw.js b hb, fun b hb => ?_, fun l' r' hr => (by rw [hrd] at hr; cases hr), h.core.nodup, fun d hd => ?_, fun b hb => ⟨fun id hid => bkρ b hb id (killR_some hid).2, bkI b hb, (h.core.bk b hb).2.2⟩, fun id ob hpn => ?_, fun b hb => hw.j0 b (.inl (h.core.j0 b hb))⟩
        · refine Rep.stay (w := w1) (w' := w3) (fun b hb => hw.j0 b (.inl hb)) Iold (h.core.env t y hy) (hE0 t).1 fun id hid => ?_
          have hn := (hE0 t).2 id hid
          rw [killR_of ρ2 (hp id hn), pinned id hn]
        · rcases fromρ id b (killR_some hi).2 with ⟨id', h'⟩ | h' | h' | h'
          · exact h.core.rng id' b h'
          · exact (h.core.ms b h').2.2.2
          · exact .inr (h' ▸ hl)
          · exact .inr (Nat.le_trans hwc (Nat.le_trans h.late h'))
        · rcases hw.im b hb with (h' | h') | h'
          · exact h.core.im b h'
          · rcases hL1 b h' with h'' | h''
            · exact hImc b h''
            · exact .inr (Nat.le_trans hwc h'')
          · exact .inr (Nat.le_trans hwc (Nat.le_trans h.late h'))
        · rw [← hN]; exact hg3
        · obtain ⟨h1, h2, h3, _⟩ := hw.ms b hb
          exact ⟨h1, fun id hid => h2 id (killR_some hid).2, h3, (h.core.ms b hb).2.2.2⟩
        · obtain ⟨D, e, hD, hle⟩ := h.core.df d hd
          exact ⟨D, e, by rw [bookw D (.inr (e ▸ hd))]; exact hD, hle⟩
        · have hS := hnm id (H.pin id ob hpn)
          rw [killR_of ρ2 (hp id hS), pinned id hS]; exact h.core.pin id ob hpn
      have C4 := C3.carry H.G (w' := w3.putObj l (.loop { { r with state := .busy } with state := if jump.isNone then .ready else .done, pending := jump })) (fun k hk => hoth _ k fun e => by
        rcases hk with ⟨id, hid⟩ | hk | hk | hk
        · exact hl2 id (e ▸ (killR_some hid).2)
        · exact hlI2 (e ▸ hk)
        · exact h.lM (e ▸ hk)
        · exact h.lb (e ▸ hk)) (by simp) rfl rfl rfl
      refine ⟨killS p σ', killR p ρ2, I2, M2, _, fun x hx => h.len x (by simp [hx]), ?_, C4, World.putObj_heap_same (Array.getElem?_eq_some_iff.1 hrec3).1, ?_, fun id hid => hl2 id (killR_some hid).2, hlI2, h.lM, h.lb, fun b hb => ?_, fun b hb => ?_, ?_⟩
      · simpa using Nat.le_trans h.late hw.ext.size
      · rw [hrr]
      · rcases hb with hb | hb | hb | hb
        · exact .inl hb
        · exact .inr (.inl hb)
        · exact .inr (.inr (.inl hb))
        · exact .inr (.inr (.inr (.inl hb)))
      · by_cases hb1 : Im1 b
        · exact .inr ⟨hb, hb1⟩
        · exact .inl (.inr (.inr (.inr (.inr ⟨hb, hb1⟩))))
      · rcases hj with ⟨rfl, hI⟩ | ⟨rfl, hQ⟩ | ⟨i, rfl, hQ⟩
        · exact .inl ⟨rfl, rfl, rfl, hI⟩
        · exact .inr ⟨rfl, rfl, .inl ⟨rfl, hQ⟩⟩
        · exact .inr ⟨rfl, rfl, .inr ⟨i, rfl, hQ⟩⟩
    · intro k hk
      have hsz : (w3.putObj l (.loop { { r with state := .busy } with state := if jump.isNone then .ready else .done, pending := jump })).heap.size = w3.heap.size := by simp
      rw [hsz]
      have covm : ∀ b, ((∃ id, ρ id = some b) ∨ M2.m b ∨ b = l) → M1.m b := fun b hb => h.cov b (by rcases hb with h | h | h; exact .inl h; exact .inr (.inl h); exact .inr (.inr (.inl h)))
      rcases hk with ⟨id, hid⟩ | hk | hk | hk | ⟨hk, hk1⟩
      · have hid := (killR_some hid).2
        refine ⟨hw.inv.lt hid, ?_⟩
        rcases hw.rng id k hid with h' | h'
        · exact .inl (covm k h')
        · exact .inr h'
      · exact ⟨(hw.ms k hk).1, .inl (h.cov k (.inr (.inl hk)))⟩
      · subst hk; exact ⟨(Array.getElem?_eq_some_iff.1 hrec3).1, .inl (h.cov _ (.inr (.inr (.inl rfl))))⟩
      · exact ⟨Nat.lt_of_lt_of_le (h.core.bklt hk) hw.ext.size, .inl (h.cov k (.inr (.inr (.inr hk))))⟩
      · refine ⟨hw.inv.low k hk, ?_⟩
        rcases hw.im k hk with (h' | h') | h'
        · rcases h.covI k h' with h'' | h''
          · exact .inl h''
          · exact absurd (hJ1 k h'') hk1
        · exact absurd h' hk1
        · exact .inr h'
    · have hx : Ext w1 M1.m w3 := hw.ext.mono fun b _ hb => h.cov b (by rcases hb with h | h | h; exact .inl h; exact .inr (.inl h); exact .inr (.inr (.inl h)))
      exact hx.trans (Y := fun b => b = l) ⟨rfl, rfl, rfl, by simp, fun b _ hb => World.putObj_heap_other hb⟩ fun b hb => .inl (by subst hb; exact h.cov _ (.inr (.inr (.inl rfl))))
  have hA := awp_sound (HR .ready) (draw_sound (HR .ready)) (n := n) as _ _ _ hoA (hround x rest σ hinv)
    (Exit.then (fun a₁ w₁ => ∃ w₂, (Instr.beginRound l).run S.P w₁ = .ok () w₂ ∧ body.wpIn (FW (some l)) n S.P (roundPost S.P l fun e w' => ∃ b M', e = .returned (.bool b) ∧ (∃ σ ρ Im M r, InLoop C Q I E0 a l ps.size wc.heap.size r0 rest (!b) M' w' σ ρ Im M r) ∧
      (∀ k, M'.m k → k < w'.heap.size ∧ (M1.m k ∨ w1.heap.size ≤ k)) ∧ (∀ k, M'.j k → Im1 k) ∧ Ext w1 M1.m w') a₁ w₂) (fun _ _ _ => False))
    (fun e E' σ' a' w' hq hs => ?_) _ w1 ⟨_, _, _, W0⟩
  · exact hA
  · cases e with
    | normal =>
      obtain ⟨ρ2, I2, M2, hw⟩ := hs
      have hrec2 : w'.heap[l]? = some (.loop { r with state := .ready }) := hw.rd l _ rfl
      refine ⟨_, run_beginRound hrec2 rfl, ?_⟩
      have hoth : ∀ k, k ≠ l → (w'.putObj l (.loop { { r with state := .ready } with state := .busy })).heap[k]? = w'.heap[k]? := fun k hk => World.putObj_heap_other hk
      have hl2 := hw.bk l (.inl ⟨_, rfl⟩)
      have hoC : Core (mk .ready) E' σ' a' w' ρ2 I2 M2 := hw.core
      -- busy now
      have W1 : Wit (mk .busy) E' σ' a' (w'.putObj l (.loop { r with state := .busy })) ρ2 I2 M2 := by
        have hneq : ∀ k, ((∃ id, ρ2 id = some k) ∨ I2 k ∨ M2.m k ∨ stamp k ∈ a'.defers) → k ≠ l := fun k hk e => by
          subst e
          rcases hk with ⟨id, hid⟩ | hk | hk | hk
          · exact hl2.1 id hid
          · exact hl2.2.1 hk
          · exact hl2.2.2 hk
          · obtain ⟨D, e, hD, _⟩ := hw.df _ hk
            rw [stamp_inj e] at hrec2; rw [hrec2] at hD; cases hD
        refine ⟨hw.inv.carry (fun k hk => World.putObj_heap_other (hneq k (by rcases hk with h | h; exact .inl h; exact .inr (.inl h)))) (by simp),
          fun t y hy => Rep.mono (w := w') (fun _ h => h) (fun b hI => World.putObj_heap_other (hneq b (.inr (.inl hI)))) (hw.env t y hy) fun i _ => ⟨rfl, fun b hi cur e hc => ⟨cur, by rw [World.putObj_heap_other (hneq b (.inl ⟨i, hi⟩))]; exact hc, rfl⟩⟩,
          hw.size, ?_, hw.rng, hw.im, hw.gh, ?_, hw.js, fun b hb => by simpa using hw.ms b hb, fun l' r' hr => ?_, hw.nodup, fun d hd => ?_, fun b hb => ?_, hw.pin, hw.j0⟩
        · exact hw.ext.trans (Y := fun b => b = l) ⟨rfl, rfl, rfl, by simp, fun b _ hb => World.putObj_heap_other hb⟩ fun b hb => .inl (.inr (.inr hb))
        · exact (HR .busy).G _ _ _ _ hw.g (fun k hk => World.putObj_heap_other (hneq k (by rcases hk with h | h; exact .inr (.inr (.inl h)); exact .inr (.inl (hw.js k h))))) (by simp) rfl rfl rfl
        · simp only [mk, Option.some.injEq, Prod.mk.injEq] at hr
          obtain ⟨rfl, rfl⟩ := hr
          exact World.putObj_heap_same (Array.getElem?_eq_some_iff.1 hrec2).1
        · obtain ⟨D, e, hD, hle⟩ := hw.df d hd
          exact ⟨D, e, by rw [World.putObj_heap_other (hneq D (.inr (.inr (.inr (e ▸ hd)))))]; exact hD, hle⟩
        · refine hw.bk b ?_
          rcases hb with ⟨r', hr'⟩ | hd
          · simp only [mk, Option.some.injEq, Prod.mk.injEq] at hr'
            exact .inl ⟨{ r with state := .ready }, by simp only [mk]; rw [hr'.1]⟩
          · exact .inr hd
      have hB := awp_sound (HR .busy) (draw_sound (HR .busy)) (n := n) body _ _ _ hoB hq
        (roundPost S.P l fun e w' => ∃ b M', e = .returned (.bool b) ∧ (∃ σ ρ Im M r, InLoop C Q I E0 a l ps.size wc.heap.size r0 rest (!b) M' w' σ ρ Im M r) ∧
          (∀ k, M'.m k → k < w'.heap.size ∧ (M1.m k ∨ w1.heap.size ≤ k)) ∧ (∀ k, M'.j k → Im1 k) ∧ Ext w1 M1.m w') (fun e E'' σ'' a'' w'' hq' hs' => ?_) _ _ ⟨_, _, _, W1⟩
      · exact hB
      · cases e with
        | normal => obtain ⟨p, hp, hI⟩ := hq'; exact leave E'' σ'' a'' w'' p none hp hs' (.inl ⟨rfl, hI⟩)
        | ret => obtain ⟨p, hp, hI⟩ := hq'; exact leave E'' σ'' a'' w'' p (some .ret) hp hs' (.inr (.inl ⟨rfl, hI⟩))
        | exit i => obtain ⟨p, hp, hI⟩ := hq'; exact leave E'' σ'' a'' w'' p (some (.exit i)) hp hs' (.inr (.inr ⟨i, rfl, hI⟩))
        | goto t => exact hq'.elim
        | panic ch => exact hq'.elim
        | outgrown => exact hq'.elim
    | ret => exact hq.elim
    | exit i => exact hq.elim
    | goto t => exact hq.elim
    | panic ch => exact hq.elim
    | outgrown => exact hq.elim

end Go.Vai

/- The activation's state: what stands for what, and how a step carries it on. -/
import Derived.Test.YtmiahmpobpokmaaVa
namespace Go.Vai
open Go.RowKit

/-- What a stranger has: what he writes, what he only reads. -/
structure Str where
  m : Nat → Prop
  j : Nat → Prop

/-- What is fixed for an activation. -/
structure Fx where
  w0 : World
  X0 : Nat → Prop
  Im0 : Nat → Prop
  G : AV → Str → World → Prop
  N : Nat
  rd : Option (Nat × Loop)
  pin : Nat → Option (Option Nat)
  J0 : Nat → Prop

def stamp (D : Nat) : Deferred := { target := .collected D, args := #[] }

/-- Blocks of book-keeping. -/
def Fx.book (C : Fx) (a : Act) (b : Nat) : Prop := (∃ r, C.rd = some (b, r)) ∨ stamp b ∈ a.defers

/-- The stranger's word abides what he does not own. -/
def GStable (G : AV → Str → World → Prop) : Prop :=
  ∀ g M w w', G g M w → (∀ k, M.m k ∨ M.j k → w'.heap[k]? = w.heap[k]?) → w.heap.size ≤ w'.heap.size → w'.os = w.os → w'.tape = w.tape → w'.output = w.output → G g M w'

structure Wit (C : Fx) (E : Env) (σ : Store) (a : Act) (w : World) (ρ : Nat → Option Nat) (Im : Nat → Prop) (M : Str) : Prop where
  inv : Inv w ρ Im σ
  env : EnvRep w ρ Im E a.tmps
  size : a.tmps.size = C.N
  ext : Ext C.w0 C.X0 w
  rng : ∀ id b, ρ id = some b → C.X0 b ∨ C.w0.heap.size ≤ b
  im : ∀ b, Im b → C.Im0 b ∨ C.w0.heap.size ≤ b
  gh : ∀ p, AV.namesB p (E C.N) = false
  g : C.G (E C.N) M w
  js : ∀ b, M.j b → Im b
  ms : ∀ b, M.m b → b < w.heap.size ∧ (∀ id, ρ id ≠ some b) ∧ ¬ Im b ∧ (C.X0 b ∨ C.w0.heap.size ≤ b)
  rd : ∀ l r, C.rd = some (l, r) → w.heap[l]? = some (.loop r)
  nodup : a.defers.Nodup
  df : ∀ d ∈ a.defers, ∃ D, d = stamp D ∧ w.heap[D]? = some (.deferred (some [])) ∧ C.w0.heap.size ≤ D
  bk : ∀ b, C.book a b → (∀ id, ρ id ≠ some b) ∧ ¬ Im b ∧ ¬ M.m b
  pin : ∀ id ob, C.pin id = some ob → ρ id = ob
  j0 : ∀ b, C.J0 b → Im b

def St (C : Fx) (E : Env) (σ : Store) (a : Act) (w : World) : Prop := ∃ ρ Im M, Wit C E σ a w ρ Im M

section
variable {C : Fx} {E : Env} {σ : Store} {a : Act} {w : World} {ρ : Nat → Option Nat} {Im : Nat → Prop} {M : Str}

theorem stamp_inj {D D' : Nat} (h : stamp D = stamp D') : D = D' := by
  simp [stamp] at h; exact h

theorem Wit.bklt (h : Wit C E σ a w ρ Im M) {b : Nat} (hb : C.book a b) : b < w.heap.size := by
  rcases hb with ⟨r, hr⟩ | hd
  · exact (Array.getElem?_eq_some_iff.1 (h.rd b r hr)).1
  · obtain ⟨D, e, hD, _⟩ := h.df _ hd
    rw [stamp_inj e]; exact (Array.getElem?_eq_some_iff.1 hD).1

/-- One step: of the blocks that lay, those of the store alone may have turned. -/
theorem Wit.step (hG : GStable C.G) (h : Wit C E σ a w ρ Im M) {w' : World} {ρ' : Nat → Option Nat} {Im' : Nat → Prop} {E' : Env} {σ' : Store} {a' : Act}
    (hx : Ext w (fun b => ∃ id, ρ id = some b) w') (hinv : Inv w' ρ' Im' σ') (henv : EnvRep w' ρ' Im' E' a'.tmps) (hsz : a'.tmps.size = a.tmps.size) (hd : a'.defers = a.defers)
    (hN : E' C.N = E C.N) (hρ : ∀ id b, ρ' id = some b → (∃ id', ρ id' = some b) ∨ w.heap.size ≤ b) (hIm : ∀ b, Im' b → Im b ∨ w.heap.size ≤ b)
    (hpin : ∀ id ob, C.pin id = some ob → ρ' id = ob) (hImm : ∀ b, Im b → Im' b) : Wit C E' σ' a' w' ρ' Im' M where
  inv := hinv
  env := henv
  size := hsz.trans h.size
  ext := h.ext.trans hx fun b ⟨id, hb⟩ => h.rng id b hb
  rng := fun id b hb => by
    rcases hρ id b hb with ⟨id', h'⟩ | h'
    · exact h.rng id' b h'
    · exact .inr (Nat.le_trans h.ext.size h')
  im := fun b hb => by
    rcases hIm b hb with h' | h'
    · exact h.im b h'
    · exact .inr (Nat.le_trans h.ext.size h')
  gh := by rw [hN]; exact h.gh
  g := by rw [hN]; exact hG _ _ _ _ h.g (fun k hk => by
    rcases hk with hk | hk
    · exact hx.block k (h.ms k hk).1 fun ⟨id, hid⟩ => (h.ms k hk).2.1 id hid
    · exact hx.block k (h.inv.low k (h.js k hk)) fun ⟨id, hid⟩ => h.inv.apart id k hid (h.js k hk)) hx.size hx.os hx.tape hx.output
  js := fun b hb => hImm b (h.js b hb)
  ms := fun b hb => by
    obtain ⟨h1, h2, h3, h4⟩ := h.ms b hb
    refine ⟨Nat.lt_of_lt_of_le h1 hx.size, fun id hid => ?_, fun hi => ?_, h4⟩
    · rcases hρ id b hid with ⟨id', h'⟩ | h'
      · exact h2 id' h'
      · omega
    · rcases hIm b hi with h' | h'
      · exact h3 h'
      · omega
  rd := fun l r hr => by
    have hb : C.book a l := .inl ⟨r, hr⟩
    rw [hx.block l (h.bklt hb) fun ⟨id, hid⟩ => (h.bk l hb).1 id hid]
    exact h.rd l r hr
  nodup := by rw [hd]; exact h.nodup
  df := fun d hdd => by
    rw [hd] at hdd
    obtain ⟨D, e, hD, hl⟩ := h.df d hdd
    have hb : C.book a D := .inr (e ▸ hdd)
    exact ⟨D, e, by rw [hx.block D (h.bklt hb) fun ⟨id, hid⟩ => (h.bk D hb).1 id hid]; exact hD, hl⟩
  pin := hpin
  j0 := fun b hb => hImm b (h.j0 b hb)
  bk := fun b hb => by
    have hb : C.book a b := by unfold Fx.book at *; rwa [hd] at hb
    obtain ⟨h1, h2, h3⟩ := h.bk b hb
    have hl := h.bklt hb
    refine ⟨fun id hid => ?_, fun hi => ?_, h3⟩
    · rcases hρ id b hid with ⟨id', h'⟩ | h'
      · exact h1 id' h'
      · omega
    · rcases hIm b hi with h' | h'
      · exact h2 h'
      · omega

def updO (E : Env) : Option Nat → AV → Env
  | none, _ => E
  | some d, v => upd E d v
@[simp] theorem updO_some (E : Env) (d : Nat) (v : AV) : updO E (some d) v = upd E d v := rfl
@[simp] theorem updO_none (E : Env) (v : AV) : updO E none v = E := rfl

theorem put_size (a : Act) (dst : Option Nat) (y : Value) : (a.put dst y).tmps.size = a.tmps.size := by cases dst <;> simp [Act.put]
theorem put_defers (a : Act) (dst : Option Nat) (y : Value) : (a.put dst y).defers = a.defers := by cases dst <;> rfl

theorem EnvRep.put {tm : Act} {v : AV} {y : Value} {dst : Option Nat} (h : EnvRep w ρ Im E tm.tmps) (hv : Rep w ρ Im v y) : EnvRep w ρ Im (updO E dst v) (tm.put dst y).tmps := by
  cases dst with
  | none => exact h
  | some d =>
    intro t z hz
    simp only [Act.put, Array.getElem?_setIfInBounds] at hz
    simp only [updO, upd]
    split at hz
    · rename_i e; subst e
      split at hz
      · cases hz; simpa using hv
      · cases hz
    · rename_i e
      rw [if_neg (fun h => e h.symm)]
      exact h t z hz

theorem updO_ne {E : Env} {dst : Option Nat} {v : AV} {N : Nat} (h : ∀ d, dst = some d → d < N) : updO E dst v N = E N := by
  cases dst with
  | none => rfl
  | some d => have := h d rfl; simp only [updO, upd]; rw [if_neg (by omega)]

/-- An operation that turns nothing. -/
theorem Wit.put (hG : GStable C.G) (h : Wit C E σ a w ρ Im M) {dst : Option Nat} {v : AV} {y : Value} (hd : ∀ d, dst = some d → d < C.N) (hv : Rep w ρ Im v y) :
    Wit C (updO E dst v) σ (a.put dst y) w ρ Im M :=
  h.step hG (Ext.refl _ _) h.inv (h.env.put hv) (put_size ..) (put_defers ..) (updO_ne hd) (fun id _ hb => .inl ⟨id, hb⟩) (fun _ hb => .inl hb) h.pin (fun _ h => h)

theorem kill_of_not {p : Nat → Bool} {a : AV} (h : AV.namesB p a = false) : a.kill p = a := by simp [AV.kill, h]

/-- Blocks are forgotten. -/
theorem Wit.kill (hG : GStable C.G) (h : Wit C E σ a w ρ Im M) (p : Nat → Bool) (hp : ∀ id b, C.pin id = some b → p id = false) : Wit C (killE p E) (killS p σ) a w (killR p ρ) Im M :=
  h.step hG (Ext.refl _ _) (h.inv.kill p) (h.env.kill p) rfl rfl (kill_of_not (h.gh p)) (fun id _ hb => .inl ⟨id, (killR_some hb).2⟩) (fun _ hb => .inl hb)
    (fun id b hb => by rw [killR_of ρ (hp id b hb)]; exact h.pin id b hb) (fun _ h => h)

theorem Rep.drawn {v : AV} {y : Value} (h : Rep w ρ Im v y) (n : Nat) : Rep { w with drawn := n } ρ Im v y :=
  Rep.mono (w := w) (w' := { w with drawn := n }) (fun _ h => h) (fun _ _ => rfl) h fun _ _ => ⟨rfl, fun _ _ cur _ hb => ⟨cur, hb, rfl⟩⟩

/-- A draw. -/
theorem Inv.drew (h : Inv w ρ Im σ) (n : Nat) : Inv { w with drawn := n } ρ Im σ where
  nil := h.nil
  map := fun id k b hk hr hz => by
    obtain ⟨ents, clk, hb, hl, hc⟩ := h.map id k b hk hr hz
    exact ⟨ents, clk, hb, hl, fun i m hm => by obtain ⟨v, hv, hrv⟩ := hc i m hm; exact ⟨v, hv, hrv.drawn n⟩⟩
  blk := fun id k b hk hr hz => by
    obtain ⟨cur, hb, hl, hs, hc⟩ := h.blk id k b hk hr hz
    exact ⟨cur, hb, hl, hs, fun i e j c he hcc => by
      obtain ⟨x, hx, h1, hr'⟩ := hc i e j c he hcc
      exact ⟨x, hx, h1, hr'.drawn n⟩⟩
  inj := h.inj
  live := h.live
  apart := h.apart
  low := h.low

theorem Wit.drew (hG : GStable C.G) (h : Wit C E σ a w ρ Im M) (n : Nat) : Wit C E σ a { w with drawn := n } ρ Im M :=
  h.step hG ⟨rfl, rfl, rfl, Nat.le_refl _, fun _ _ _ => rfl⟩ (h.inv.drew n)
    (fun t y hy => (h.env t y hy).drawn n) rfl rfl rfl (fun id _ hb => .inl ⟨id, hb⟩) (fun _ hb => .inl hb) h.pin (fun _ h => h)

def updR (ρ : Nat → Option Nat) (d : Nat) (b : Option Nat) : Nat → Option Nat := fun t => if t = d then b else ρ t
@[simp] theorem updR_same (ρ : Nat → Option Nat) (d : Nat) (b : Option Nat) : updR ρ d b d = b := by simp [updR]
theorem updR_ne (ρ : Nat → Option Nat) (d : Nat) (b : Option Nat) (t : Nat) (h : t ≠ d) : updR ρ d b t = ρ t := by simp [updR, h]

/-- What holds of a world holds behind a new block, under a further name that it does not bear. -/
theorem Rep.later {w' : World} {d : Nat} {ob : Option Nat} {v : AV} {y : Value} (h : Rep w ρ Im v y) (hlow : ∀ b, Im b → b < w.heap.size) (hrl : ∀ id b, ρ id = some b → b < w.heap.size)
    (hb : ∀ k, k < w.heap.size → w'.heap[k]? = w.heap[k]?) (hn : ¬ Names v d) : Rep w' (updR ρ d ob) Im v y :=
  h.mono (fun _ h => h) (fun b hI => hb b (hlow b hI)) fun id hid =>
    ⟨updR_ne ρ d ob id (fun e => hn (e ▸ hid)), fun b hr cur e hc => ⟨cur, by rw [hb b (hrl id b hr)]; exact hc, rfl⟩⟩

theorem cells_names' {v c : AV} {id : Nat} (hc : c ∈ v.cells) (h : Names c id) : Names v id := by
  cases v with
  | agg cs => exact .agg cs c id hc h
  | _ => simp [AV.cells] at hc; subst hc; exact h

/-- The store is right behind a step that leaves its own blocks alone, but for a new one. -/
theorem Inv.fresh {w' : World} (h : Inv w ρ Im σ) (hs : w.heap.size ≤ w'.heap.size) (hb : ∀ k, k < w.heap.size → w'.heap[k]? = w.heap[k]?) {d : Nat} {k : Blk} {ob : Option Nat} {Im' : Nat → Prop}
    (hd : σ d = none) (hcl : ∀ id k', σ id = some k' → ∀ e ∈ k'.es, ¬ Names e d)
    (hIm : ∀ b, Im b → Im' b) (hIm' : ∀ b, Im' b → Im b ∨ (w.heap.size ≤ b ∧ b < w'.heap.size ∧ ob ≠ some b))
    (hnew : match ob with
      | none => k.es = []
      | some b => w.heap.size ≤ b ∧ b < w'.heap.size ∧ (k.sz = 0 → MapOK w' (updR ρ d ob) Im' k.es b) ∧ (k.sz ≠ 0 → ∃ cur, w'.heap[b]? = some (.cells cur k.e (0, 0)) ∧ (∀ e ∈ k.es, e.cells.length = k.sz) ∧ k.es.length * k.sz ≤ cur.size ∧
          (∀ (i : Nat) (e : AV) (j : Nat) (c : AV), k.es[i]? = some e → e.cells[j]? = some c → ∃ x, cur[i * k.sz + j]? = some x ∧ x.oneCell' = true ∧ Rep w' (updR ρ d ob) Im' c x))) :
    Inv w' (updR ρ d ob) Im' (updS σ d k) where
  nil := fun id k' hk hr => by
    by_cases e : id = d
    · subst e; simp at hk hr; subst hk; subst hr; exact hnew
    · rw [updS_ne _ _ _ _ e] at hk; rw [updR_ne _ _ _ _ e] at hr; exact h.nil id k' hk hr
  map := fun id k' b hk hr hz => by
    by_cases e : id = d
    · subst e; simp at hk hr; subst hk; subst hr; exact hnew.2.2.1 hz
    · rw [updS_ne _ _ _ _ e] at hk; rw [updR_ne _ _ _ _ e] at hr
      obtain ⟨ents, clk, hbb, hl, hc⟩ := h.map id k' b hk hr hz
      refine ⟨ents, clk, by rw [hb b (h.lt hr)]; exact hbb, hl, fun i m hm => ?_⟩
      obtain ⟨v, hv, hr'⟩ := hc i m hm
      exact ⟨v, hv, (hr'.later h.low (fun _ _ => h.lt) hb (fun hn => hcl id k' hk _ (List.mem_of_getElem? hv) (.tup _ v d (by simp) hn))).mono hIm (fun _ _ => rfl) fun _ _ => ⟨rfl, fun _ _ cur _ hb => ⟨cur, hb, rfl⟩⟩⟩
  blk := fun id k' b hk hr hz => by
    by_cases e : id = d
    · subst e; simp at hk hr; subst hk; subst hr; exact hnew.2.2.2 hz
    · rw [updS_ne _ _ _ _ e] at hk; rw [updR_ne _ _ _ _ e] at hr
      obtain ⟨cur, hbb, hl, hs', hc⟩ := h.blk id k' b hk hr hz
      refine ⟨cur, by rw [hb b (h.lt hr)]; exact hbb, hl, hs', fun i e' j c he hcc => ?_⟩
      obtain ⟨x, hx, h1, hr'⟩ := hc i e' j c he hcc
      exact ⟨x, hx, h1, (hr'.later h.low (fun _ _ => h.lt) hb (fun hn => hcl id k' hk e' (List.mem_of_getElem? he) (cells_names' (List.mem_of_getElem? hcc) hn))).mono hIm (fun _ _ => rfl) fun _ _ => ⟨rfl, fun _ _ cur _ hb => ⟨cur, hb, rfl⟩⟩⟩
  inj := fun i j b h1 h2 => by
    by_cases e1 : i = d <;> by_cases e2 : j = d
    · rw [e1, e2]
    · subst e1; rw [updR_same] at h1; rw [updR_ne _ _ _ _ e2] at h2; subst h1; have := h.lt h2; have := hnew.1; omega
    · subst e2; rw [updR_same] at h2; rw [updR_ne _ _ _ _ e1] at h1; subst h2; have := h.lt h1; have := hnew.1; omega
    · rw [updR_ne _ _ _ _ e1] at h1; rw [updR_ne _ _ _ _ e2] at h2; exact h.inj i j b h1 h2
  live := fun i b hr hs' => by
    by_cases e : i = d
    · subst e; simp at hs'
    · rw [updR_ne _ _ _ _ e] at hr; rw [updS_ne _ _ _ _ e] at hs'; exact h.live i b hr hs'
  apart := fun i b hr hI => by
    by_cases e : i = d
    · subst e; rw [updR_same] at hr; subst hr
      rcases hIm' b hI with h' | ⟨_, _, h'⟩
      · have := h.low b h'; have := hnew.1; omega
      · exact h' rfl
    · rw [updR_ne _ _ _ _ e] at hr
      rcases hIm' b hI with h' | ⟨h', _, _⟩
      · exact h.apart i b hr h'
      · have := h.lt hr; omega
  low := fun b hI => by
    rcases hIm' b hI with h' | ⟨_, h', _⟩
    · have := h.low b h'; omega
    · exact h'

end
end Go.Vai
